/- The engine: an abstract machine that runs closed code of any program, and its proof: part 14 of 14. No condition. -/
import Derived.Test.YtjhnpcnamclfbaaGreatDoorE13
/-! Oracles that look at memory that stays as it is. No condition. -/
namespace Go.Eng
open Go.RowKit
noncomputable section

/-- The oracle tells what the machine's operation does. -/
def OraRow (E : Env) (σ : Nat → Value) (o : Op) (as : List AV) (a : AV) : Prop :=
  ∀ (B : Base) (ρ : Rho) (tm : T AV) (ev : Operand → Value) (s : St) (w : World), E.V w → R B ρ σ s w → EvOK ρ σ tm ev → aevals tm o.operands.toList = some as →
    ∀ oper : Oper, oper.op = o → ResOK B ρ σ (.val a s) w ((execOp ev oper).run E.P w)
theorem ORow.row {E : Env} {σ : Nat → Value} (ok : EnvOK E) {o : Op} {as : List AV} {a : AV} (h : ORow E σ o as a) : OraRow E σ o as a := by
  intro B ρ tm ev s w _ hR he hop oper e
  subst e
  exact (aop0_ok ok hR he.mapV (h (tm.mapV (conc σ)) s (aevals_mapV hop))).back

def codeML (u : List TypeId) : Nat := match u with
  | [u] => Nat.add (Nat.mul 8 u) 3
  | _ => 0
def codeMS (u : TypeId) : Option Operand → Option Operand → Option Operand → Nat
  | some _, some _, none => Nat.add (Nat.mul 8 u) 4
  | some _, none, none => Nat.add (Nat.mul 8 u) 5
  | none, some _, none => Nat.add (Nat.mul 8 u) 6
  | _, _, _ => 0
def codeMB (u : TypeId) : BinOp → Nat
  | .eql => Nat.add (Nat.mul 8 u) 7
  | .neq => Nat.add (Nat.mul 8 u) 8
  | _ => 0
/-- What an operation on memory is, by a number. -/
def codeM : Op → Nat
  | .binOp op u _ _ _ => codeMB u op
  | .load u _ => Nat.add (Nat.mul 8 u) 1
  | .indexAddr u _ _ => Nat.add (Nat.mul 8 u) 2
  | .call c => match c.callee with
    | .builtin .len => codeML c.argTypes.toList
    | _ => 0
  | .slice u _ lo hi mx => codeMS u lo hi mx
  | _ => 0

def RowM (E : Env) (σ : Nat → Value) (r : OR) : Prop := ∀ o, oraO o = true → codeM o = r.k → OraRow E σ o r.as r.v

/-- The environment with an oracle, one of memory too, and known calls. -/
def Env.askM (E : Env) (t : TypeId) (rows mrows : List OR) (m : FuncId → List AV → St → Option (AV × St)) : Env :=
  { E with memo := m, on := true, ora := fun o as => match findOH (codeO t o) as rows with
    | some a => some a
    | none => findOH (codeM o) as mrows }

theorem EnvS.askM {E : Env} {σ : Nat → Value} {t : TypeId} {rows mrows : List OR} {m : FuncId → List AV → St → Option (AV × St)} (ok : EnvOK E) (h : ∀ r ∈ rows, RowOK (E.askM t rows mrows m) t σ r) (hm : ∀ r ∈ mrows, RowM (E.askM t rows mrows m) σ r) : EnvS (E.askM t rows mrows m) σ := by
  have ok' : EnvOK (E.askM t rows mrows m) := ⟨ok.ty, ok.fns, ok.mixed⟩
  refine ⟨ok', fun _ o as a ho ha B ρ tm ev s w hV hR he hop oper e => ?_⟩
  replace ha : (match findOH (codeO t o) as rows with | some a => some a | none => findOH (codeM o) as mrows) = some a := ha
  split at ha
  · rename_i x hx
    cases ha
    rw [findOH_eq] at hx
    obtain ⟨r, hr, h1, rfl, rfl⟩ := findO_mem hx
    exact (h r hr o ho h1.symm).row ok' B ρ tm ev s w hV hR he hop oper e
  · rw [findOH_eq] at ha
    obtain ⟨r, hr, h1, rfl, rfl⟩ := findO_mem ha
    exact hm r hr o ho h1.symm B ρ tm ev s w hV hR he hop oper e

section
variable {E : Env} {σ : Nat → Value} {u : Nat}

theorem codeML_lt (l : List TypeId) : codeML l = 0 ∨ ∃ v : Nat, l = [v] ∧ codeML l = 8 * v + 3 := by
  unfold codeML
  split
  · exact .inr ⟨_, rfl, rfl⟩
  · exact .inl rfl
theorem codeMS_lt (v : Nat) (a b c : Option Operand) : codeMS v a b c = 0 ∨ ((∃ x y, a = some x ∧ b = some y ∧ c = none) ∧ codeMS v a b c = 8 * v + 4) ∨ ((∃ x, a = some x ∧ b = none ∧ c = none) ∧ codeMS v a b c = 8 * v + 5) ∨ ((∃ y, a = none ∧ b = some y ∧ c = none) ∧ codeMS v a b c = 8 * v + 6) := by
  unfold codeMS
  split
  · exact .inr (.inl ⟨⟨_, _, rfl, rfl, rfl⟩, rfl⟩)
  · exact .inr (.inr (.inl ⟨⟨_, rfl, rfl, rfl⟩, rfl⟩))
  · exact .inr (.inr (.inr ⟨⟨_, rfl, rfl, rfl⟩, rfl⟩))
  · exact .inl rfl
theorem codeMB_lt (v : Nat) (op : BinOp) : codeMB v op = 0 ∨ (op = .eql ∧ codeMB v op = 8 * v + 7) ∨ (op = .neq ∧ codeMB v op = 8 * v + 8) := by
  unfold codeMB
  split
  · exact .inr (.inl ⟨rfl, rfl⟩)
  · exact .inr (.inr ⟨rfl, rfl⟩)
  · exact .inl rfl
theorem codeM_call (c : Call) : codeM (.call c) = 0 ∨ (c.callee = .builtin .len ∧ ∃ v : Nat, c.argTypes.toList = [v] ∧ codeM (.call c) = 8 * v + 3) := by
  show (match c.callee with | .builtin .len => codeML c.argTypes.toList | _ => 0) = 0 ∨ (c.callee = .builtin .len ∧ ∃ v : Nat, c.argTypes.toList = [v] ∧ (match c.callee with | .builtin .len => codeML c.argTypes.toList | _ => 0) = 8 * v + 3)
  split
  · rename_i hc
    rcases codeML_lt c.argTypes.toList with h | ⟨v, h1, h2⟩
    · exact .inl h
    · exact .inr ⟨hc, v, h1, h2⟩
  · exact .inl rfl

/-- A cell's value. -/
theorem RowM.load {ti : TyI} {i blk off : Nat} {a : AV} (hp : σ i = .pointer (some ⟨blk, off, none⟩)) (ht : E.ty.get u = some ti) (hA : ti.isAgg = false)
    (hV : ∀ w, E.V w → ∃ c t fr v, w.heap[blk]? = some (.cells c t fr) ∧ c[off]? = some v ∧ ∀ ρ, VR ρ σ a v) (ok : EnvOK E) : RowM E σ ⟨Nat.add (Nat.mul 8 u) 1, [.sym i], a⟩ := by
  intro o ho hk
  replace hk : codeM o = 8 * u + 1 := hk
  cases o <;> first | (cases ho; done) | (exfalso; have h0 := hk; change 0 = _ at h0; omega) | skip
  case binOp op v x y z => exfalso; obtain ⟨v, rfl⟩ : ∃ z : Nat, z = v := ⟨v, rfl⟩; have hk : codeMB v op = 8 * u + 1 := hk; rcases codeMB_lt v op with h | ⟨_, h⟩ | ⟨_, h⟩ <;> omega
  case load v x =>
    obtain ⟨v, rfl⟩ : ∃ z : Nat, z = v := ⟨v, rfl⟩
    have hk : 8 * v + 1 = 8 * u + 1 := hk
    have hv : v = u := by omega
    subst hv
    intro B ρ tm ev s w hW hR he hop oper e
    have hop : aevals tm [x] = some [.sym i] := hop
    have hx := he x _ (aevals_one hop)
    obtain ⟨hx, _⟩ := hx
    obtain ⟨c, t, fr, v', hc, hcv, hvr⟩ := hV w hW
    obtain ⟨dst, op, type, pos, after, guard⟩ := oper
    cases e
    have hagg := ok.run_isAgg ht w
    rw [hA] at hagg
    show ResOK B ρ σ _ w ((do pure (.value (← Instr.loadAt v (ev x))) : Sem Next).run E.P w)
    refine res_of_val0 hR (v := v') ?_ (hvr ρ)
    rw [hx, hp]
    have h1 : (loadVar v ⟨blk, off, none⟩).run E.P w = .ok v' w := by
      simp only [loadVar, Sem.run_bind, hagg, Result.andThen_ok, Bool.false_eq_true, if_false]
      exact run_load_known (P := E.P) (o := off) hc hcv
    simp only [Instr.loadAt, Instr.sureAddr, Sem.run_bind, Sem.run_pure, Result.andThen_ok, h1]
  case indexAddr v x y => exfalso; obtain ⟨v, rfl⟩ : ∃ z : Nat, z = v := ⟨v, rfl⟩; have hk : 8 * v + 2 = 8 * u + 1 := hk; omega
  case slice v x lo hi mx => exfalso; obtain ⟨v, rfl⟩ : ∃ z : Nat, z = v := ⟨v, rfl⟩; have hk : codeMS v lo hi mx = 8 * u + 1 := hk; rcases codeMS_lt v lo hi mx with h | ⟨_, h⟩ | ⟨_, h⟩ | ⟨_, h⟩ <;> omega
  case call c => exfalso; rcases codeM_call c with h | ⟨_, v, _, h⟩ <;> omega

/-- A pointer that is one is none that is nil. -/
theorem RowM.nil {e : TypeId} {i blk off k : Nat} {r : Bool} (hu : und E u = some (.pointer e)) (hs : σ i = .pointer (some ⟨blk, off, none⟩)) (hk : (k = Nat.add (Nat.mul 8 u) 7 ∧ r = false) ∨ (k = Nat.add (Nat.mul 8 u) 8 ∧ r = true)) (ok : EnvOK E) : RowM E σ ⟨k, [.sym i, .nilptr], .bool r⟩ := by
  intro o ho hko
  replace hko : codeM o = k := hko
  have hk2 : k = 8 * u + 7 ∨ k = 8 * u + 8 := by
    rcases hk with h | h
    · exact .inl h.1
    · exact .inr h.1
  cases o <;> first | (cases ho; done) | (exfalso; have h0 := hko; change 0 = _ at h0; omega) | skip
  case load v x => exfalso; obtain ⟨v, rfl⟩ : ∃ z : Nat, z = v := ⟨v, rfl⟩; have hk : 8 * v + 1 = k := hko; omega
  case indexAddr v x y => exfalso; obtain ⟨v, rfl⟩ : ∃ z : Nat, z = v := ⟨v, rfl⟩; have hk : 8 * v + 2 = k := hko; omega
  case slice v x lo hi mx => exfalso; obtain ⟨v, rfl⟩ : ∃ z : Nat, z = v := ⟨v, rfl⟩; have hk : codeMS v lo hi mx = k := hko; rcases codeMS_lt v lo hi mx with h | ⟨_, h⟩ | ⟨_, h⟩ | ⟨_, h⟩ <;> omega
  case call c => exfalso; rcases codeM_call c with h | ⟨_, v, _, h⟩ <;> omega
  case binOp op v x y z =>
    obtain ⟨v, rfl⟩ : ∃ z : Nat, z = v := ⟨v, rfl⟩
    replace hko : codeMB v op = k := hko
    intro B ρ tm ev s w hW hR he hop oper e'
    have hop : aevals tm [x, y] = some [.sym i, .nilptr] := hop
    obtain ⟨h1, h2⟩ := aevals_cons hop
    have h2 := aevals_one h2
    obtain ⟨hxv, _⟩ := he x _ h1
    have hyv : ev y = .pointer none := he y _ h2
    obtain ⟨dst, op', type, pos, after, guard⟩ := oper
    cases e'
    have key : ∀ (op : BinOp) (c : Bool), binA E op v (.ptr 0 off) .nilptr = some (.bool c) → ResOK B ρ σ (.val (.bool c) s) w ((do pure (.value (← (do eqGuard op v x y (ev x) (ev y); binOp op v (ev x) (ev y)))) : Sem Next).run E.P w) := by
      intro op c hb
      obtain ⟨w', hr, hv⟩ := binA_ok (w := w) (ρ := fun _ => some ⟨blk, 0, 0⟩) (σ := σ) (x := x) (y := y) ok hb (va := ev x) (vb := ev y) ⟨⟨blk, 0, 0⟩, rfl, by rw [hxv, hs, Nat.zero_add]⟩ hyv
      exact res_of_val0 hR hr hv
    rcases codeMB_lt v op with h | ⟨rfl, h⟩ | ⟨rfl, h⟩
    · omega
    · have hv : v = u := by omega
      subst hv
      rcases hk with ⟨_, rfl⟩ | ⟨h3, _⟩
      · exact key .eql false (by show (match eqA E v (.ptr 0 off) .nilptr with | some b => some (AV.bool b) | none => none) = _; unfold eqA; rw [hu])
      · have h3 : k = 8 * v + 8 := h3; omega
    · have hv : v = u := by omega
      subst hv
      rcases hk with ⟨h3, _⟩ | ⟨_, rfl⟩
      · have h3 : k = 8 * v + 7 := h3; omega
      · exact key .neq true (by show (match eqA E v (.ptr 0 off) .nilptr with | some b => some (AV.bool !b) | none => none) = _; unfold eqA; rw [hu]; rfl)

/-- A cell's place in a slice. -/
theorem RowM.at {e : TypeId} {i j blk off len cap n : Nat} {kd : IntKind} {x1 : AV} (hu : und E u = some (.slice e)) (hz : szOf E e = some 1) (hs : σ i = .slice (some ⟨blk, off, none⟩) len cap) (hx : conc σ x1 = .int kd (Int.ofNat n)) (hn : n < len) (hj : σ j = .pointer (some ⟨blk, off + n, none⟩)) (ok : EnvOK E) :
    RowM E σ ⟨Nat.add (Nat.mul 8 u) 2, [.sym i, x1], .sym j⟩ := by
  intro o ho hk
  replace hk : codeM o = 8 * u + 2 := hk
  cases o <;> first | (cases ho; done) | (exfalso; have h0 := hk; change 0 = _ at h0; omega) | skip
  case binOp op v x y z => exfalso; obtain ⟨v, rfl⟩ : ∃ z : Nat, z = v := ⟨v, rfl⟩; have hk : codeMB v op = 8 * u + 2 := hk; rcases codeMB_lt v op with h | ⟨_, h⟩ | ⟨_, h⟩ <;> omega
  case load v x => exfalso; obtain ⟨v, rfl⟩ : ∃ z : Nat, z = v := ⟨v, rfl⟩; have hk : 8 * v + 1 = 8 * u + 2 := hk; omega
  case indexAddr v x y =>
    obtain ⟨v, rfl⟩ : ∃ z : Nat, z = v := ⟨v, rfl⟩
    have hk : 8 * v + 2 = 8 * u + 2 := hk
    have hv : v = u := by omega
    subst hv
    intro B ρ tm ev s w hW hR he hop oper e'
    have hop : aevals tm [x, y] = some [.sym i, x1] := hop
    obtain ⟨h1, h2⟩ := aevals_cons hop
    have h2 := aevals_one h2
    obtain ⟨hxv, _⟩ := he x _ h1
    have hyv := conc_ok (he y _ h2)
    rw [hx] at hyv
    have hyv : ev y = .int kd (Int.ofNat n) := hyv
    obtain ⟨dst, op, type, pos, after, guard⟩ := oper
    cases e'
    have hu' := ok.run_und hu w
    have hs' := ok.run_sz hz w
    show ResOK B ρ σ _ w ((do pure (.value (← Instr.indexAt v (ev x) (ev y))) : Sem Next).run E.P w)
    refine res_of_val0 hR (v := .pointer (some ⟨blk, off + n, none⟩)) ?_ ⟨hj.symm, rfl⟩
    have hin : 0 ≤ (Int.ofNat n) ∧ (Int.ofNat n) < (len : Int) := ⟨by simp, by simpa using hn⟩
    rw [hxv, hs, hyv]
    simp only [Instr.indexAt, asIntOf, Sem.run_bind, Sem.run_pure, Result.andThen_ok, hu']
    rw [if_pos hin]
    simp only [Sem.run_bind, hs', Result.andThen_ok, Sem.run_pure, addr_add]
    simp
  case slice v x lo hi mx => exfalso; obtain ⟨v, rfl⟩ : ∃ z : Nat, z = v := ⟨v, rfl⟩; have hk : codeMS v lo hi mx = 8 * u + 2 := hk; rcases codeMS_lt v lo hi mx with h | ⟨_, h⟩ | ⟨_, h⟩ | ⟨_, h⟩ <;> omega
  case call c => exfalso; rcases codeM_call c with h | ⟨_, v, _, h⟩ <;> omega

/-- A slice's length. -/
theorem RowM.len {e : TypeId} {i len cap : Nat} {ad : Option Addr} {a : AV} (hu : und E u = some (.slice e)) (hs : σ i = .slice ad len cap) (ha : conc σ a = .int .i64 (Int.ofNat len)) (ok : EnvOK E) : RowM E σ ⟨Nat.add (Nat.mul 8 u) 3, [.sym i], a⟩ := by
  intro o ho hk
  replace hk : codeM o = 8 * u + 3 := hk
  cases o <;> first | (cases ho; done) | (exfalso; have h0 := hk; change 0 = _ at h0; omega) | skip
  case binOp op v x y z => exfalso; obtain ⟨v, rfl⟩ : ∃ z : Nat, z = v := ⟨v, rfl⟩; have hk : codeMB v op = 8 * u + 3 := hk; rcases codeMB_lt v op with h | ⟨_, h⟩ | ⟨_, h⟩ <;> omega
  case load v x => exfalso; obtain ⟨v, rfl⟩ : ∃ z : Nat, z = v := ⟨v, rfl⟩; have hk : 8 * v + 1 = 8 * u + 3 := hk; omega
  case indexAddr v x y => exfalso; obtain ⟨v, rfl⟩ : ∃ z : Nat, z = v := ⟨v, rfl⟩; have hk : 8 * v + 2 = 8 * u + 3 := hk; omega
  case slice v x lo hi mx => exfalso; obtain ⟨v, rfl⟩ : ∃ z : Nat, z = v := ⟨v, rfl⟩; have hk : codeMS v lo hi mx = 8 * u + 3 := hk; rcases codeMS_lt v lo hi mx with h | ⟨_, h⟩ | ⟨_, h⟩ | ⟨_, h⟩ <;> omega
  case call c =>
    rcases codeM_call c with h | ⟨hc, v, hat, h⟩
    · omega
    have hv : v = u := by omega
    subst hv
    intro B ρ tm ev s w hW hR he hop oper e'
    have hop : aevals tm c.operands.toList = some [.sym i] := hop
    have hop' : c.operands.toList = c.args.toList := by unfold Call.operands; rw [hc]; simp
    rw [hop'] at hop
    have hargs := aevals_rel he hop
    obtain ⟨dst, op, type, pos, after, guard⟩ := oper
    cases e'
    obtain ⟨cs, hres⟩ : ∃ cs, (resolve ev c type).run E.P w = .ok { target := .builtin .len c.argTypes type cs, args := c.args.map ev } w := ⟨_, by unfold resolve; rw [hc]; rfl⟩
    show ResOK B ρ σ _ w ((do let d ← resolve ev c type; invoke d.target d.args : Sem Next).run E.P w)
    simp only [Sem.run_bind, hres, Result.andThen_ok, invoke]
    obtain ⟨x, r1, e1, ⟨hxv, _⟩, hr⟩ := hargs
    cases hr
    have hva : c.args.map ev = #[x] := Array.ext' (by simpa using e1)
    have hats : c.argTypes = (v :: ([] : List TypeId)).toArray := Array.ext' (by simpa using hat)
    rw [hva, hats]
    have hu' := ok.run_und hu w
    refine res_of_val0 hR (v := goInt len) ?_ (conc_back (by rw [ha]; rfl))
    rw [hxv, hs]
    simp [Builtin.len_, hu']

theorem optOf_conc {tm : T AV} {ρ : Rho} {ev : Operand → Value} (he : EvOK ρ σ tm ev) {x : Operand} {a : AV} {k : IntKind} {n : Nat} (hx : aeval tm x = some a) (ha : conc σ a = .int k (Int.ofNat n)) : ev x = .int k (Int.ofNat n) := by
  have h := conc_ok (he x a hx)
  rw [ha] at h
  exact h

/-- A part of a slice. -/
theorem RowM.part {e : TypeId} {i j blk off len cap lo hi kk : Nat} {as : List AV} (hu : und E u = some (.slice e)) (hz : szOf E e = some 1) (hs : σ i = .slice (some ⟨blk, off, none⟩) len cap) (hlo : lo ≤ hi) (hhi : hi ≤ cap) (hlc : lo < cap) (hj : σ j = .slice (some ⟨blk, off + lo, none⟩) (hi - lo) (cap - lo))
    (hk : (kk = Nat.add (Nat.mul 8 u) 4 ∧ ∃ b c kb kc, as = [.sym i, b, c] ∧ conc σ b = .int kb (Int.ofNat lo) ∧ conc σ c = .int kc (Int.ofNat hi)) ∨ (kk = Nat.add (Nat.mul 8 u) 5 ∧ hi = len ∧ ∃ b kb, as = [.sym i, b] ∧ conc σ b = .int kb (Int.ofNat lo)) ∨ (kk = Nat.add (Nat.mul 8 u) 6 ∧ lo = 0 ∧ ∃ c kc, as = [.sym i, c] ∧ conc σ c = .int kc (Int.ofNat hi)))
    (ok : EnvOK E) : RowM E σ ⟨kk, as, .sym j⟩ := by
  intro o ho hko
  replace hko : codeM o = kk := hko
  have hk3 : kk = 8 * u + 4 ∨ kk = 8 * u + 5 ∨ kk = 8 * u + 6 := by
    rcases hk with h | h | h
    · exact .inl h.1
    · exact .inr (.inl h.1)
    · exact .inr (.inr h.1)
  cases o <;> first | (cases ho; done) | (exfalso; have h0 := hko; change 0 = _ at h0; omega) | skip
  case binOp op v x y z => exfalso; obtain ⟨v, rfl⟩ : ∃ z : Nat, z = v := ⟨v, rfl⟩; have hk : codeMB v op = kk := hko; rcases codeMB_lt v op with h | ⟨_, h⟩ | ⟨_, h⟩ <;> omega
  case load v x => exfalso; obtain ⟨v, rfl⟩ : ∃ z : Nat, z = v := ⟨v, rfl⟩; have hk : 8 * v + 1 = kk := hko; omega
  case indexAddr v x y => exfalso; obtain ⟨v, rfl⟩ : ∃ z : Nat, z = v := ⟨v, rfl⟩; have hk : 8 * v + 2 = kk := hko; omega
  case call c => exfalso; rcases codeM_call c with h | ⟨_, v, _, h⟩ <;> omega
  case slice v x l h m =>
    obtain ⟨v, rfl⟩ : ∃ z : Nat, z = v := ⟨v, rfl⟩
    have hko : codeMS v l h m = kk := hko
    have fin : ∀ (B : Base) (ρ : Rho) (ev : Operand → Value) (s : St) (w : World) (l h : Option Operand), R B ρ σ s w → ev x = σ i → (Instr.sliceBounds true len cap (l.map ev) (h.map ev) none).run E.P w = .ok (lo, hi, cap) w →
        ResOK B ρ σ (.val (.sym j) s) w ((do pure (.value (← Instr.sliceAt u (ev x) (l.map ev) (h.map ev) none)) : Sem Next).run E.P w) := by
      intro B ρ ev s w l h hR hx hb
      have hu' := ok.run_und hu w
      have hs' := ok.run_sz hz w
      refine res_of_val0 hR (v := .slice (some ⟨blk, off + lo, none⟩) (hi - lo) (cap - lo)) ?_ ⟨hj.symm, rfl⟩
      rw [hx, hs]
      have hne : ¬ cap = lo := by omega
      simp only [Instr.sliceAt, Sem.run_bind, hu', Result.andThen_ok, Instr.slice, hb, hs', Sem.run_pure, if_neg hne, Option.map_some, addr_add, Nat.mul_one]
    intro B ρ tm ev s w hW hR he hop oper e'
    obtain ⟨dst, op, type, pos, after, guard⟩ := oper
    cases e'
    show ResOK B ρ σ _ w ((do pure (.value (← Instr.sliceAt v (ev x) (l.map ev) (h.map ev) (m.map ev))) : Sem Next).run E.P w)
    rcases codeMS_lt v l h m with h0 | ⟨⟨y1, y2, rfl, rfl, rfl⟩, h0⟩ | ⟨⟨y1, rfl, rfl, rfl⟩, h0⟩ | ⟨⟨y2, rfl, rfl, rfl⟩, h0⟩
    · omega
    · rcases hk with ⟨h1, b, c, kb, kc, rfl, hb, hc⟩ | ⟨h1, _⟩ | ⟨h1, _⟩ <;> replace h1 : kk = _ := h1
      · have hv : v = u := by have h1 : kk = 8 * u + 4 := h1; omega
        subst hv
        have hop : aevals tm [x, y1, y2] = some [.sym i, b, c] := hop
        obtain ⟨q1, q2⟩ := aevals_cons hop
        obtain ⟨q2, q3⟩ := aevals_cons q2
        have q3 := aevals_one q3
        refine fin B ρ ev s w (some y1) (some y2) hR (he x _ q1).1 ?_
        simp only [Option.map_some, optOf_conc he q2 hb, optOf_conc he q3 hc, Instr.sliceBounds, Sem.run_bind, Sem.run_pure, Result.andThen_ok, run_bound hlo, run_bound hhi]
      · have h1 : kk = 8 * u + 5 := h1; omega
      · have h1 : kk = 8 * u + 6 := h1; omega
    · rcases hk with ⟨h1, _⟩ | ⟨h1, hlen, b, kb, rfl, hb⟩ | ⟨h1, _⟩ <;> replace h1 : kk = _ := h1
      · have h1 : kk = 8 * u + 4 := h1; omega
      · have hv : v = u := by have h1 : kk = 8 * u + 5 := h1; omega
        subst hv
        have hop : aevals tm [x, y1] = some [.sym i, b] := hop
        obtain ⟨q1, q2⟩ := aevals_cons hop
        have q2 := aevals_one q2
        refine fin B ρ ev s w (some y1) none hR (he x _ q1).1 ?_
        subst hlen
        simp only [Option.map_some, Option.map_none, optOf_conc he q2 hb, Instr.sliceBounds, Sem.run_bind, Sem.run_pure, Result.andThen_ok, run_bound hlo]
      · have h1 : kk = 8 * u + 6 := h1; omega
    · rcases hk with ⟨h1, _⟩ | ⟨h1, _⟩ | ⟨h1, hl0, c, kc, rfl, hc⟩ <;> replace h1 : kk = _ := h1
      · have h1 : kk = 8 * u + 4 := h1; omega
      · have h1 : kk = 8 * u + 5 := h1; omega
      · have hv : v = u := by have h1 : kk = 8 * u + 6 := h1; omega
        subst hv
        have hop : aevals tm [x, y2] = some [.sym i, c] := hop
        obtain ⟨q1, q2⟩ := aevals_cons hop
        have q2 := aevals_one q2
        refine fin B ρ ev s w none (some y2) hR (he x _ q1).1 ?_
        subst hl0
        simp only [Option.map_some, Option.map_none, optOf_conc he q2 hc, Instr.sliceBounds, Sem.run_bind, Sem.run_pure, Result.andThen_ok, run_bound hhi]
end
end
end Go.Eng

/-! Known calls from contracts, structs among their arguments; loops and calls of a function whose contract is sought. No condition. -/
namespace Go.Eng
open Go.RowKit
noncomputable section

/-- A row with structs among its arguments that hands back plain values. -/
theorem KRow.ofPG {V : World → Prop} {P : Program} {gl : List Gv} {σ : Nat → Value} (hl : GlOK gl) {f : FuncId} {args : List AV} {a : AV} (ha : args.all plainG = true) (hp : plainA a = true ∨ (∃ l, a = .tuple l ∧ l.all plainA = true)) (h : PRow P gl σ f args a V) : KRow P gl σ f args ⟨a, []⟩ V := by
  intro B ρ s w va hv0 hR hs hva v s' hpl cs
  obtain ⟨rfl, rfl⟩ := place_nil hp hpl
  obtain ⟨e, w', fr, ⟨u, rfl, hu, hB⟩, h2⟩ := h w va (hv0.wide hR.size) ⟨_, hR.start hl hs⟩ (plainGs_any ha hva) cs
  refine ⟨_, w', fr, ⟨u, ρ, rfl, Ext.refl _, ?_, hR.frame hB, ⟨hB.os, hB.tape, hB.output, hB.size, fun k hk => hB.block k (hR.size k hk)⟩⟩, h2⟩
  rcases hp with hp | ⟨l, rfl, hl'⟩
  · exact plainA_any hp hu
  · obtain ⟨vs, e, hv⟩ := hu
    exact ⟨vs, e, plains_any (plains_all hl') hv⟩

/-- A contract by values, with structs among them, is a row. -/
theorem PRow.ofV {V : World → Prop} {P : Program} {gl : List Gv} (hl : GlOK gl) (hb : bareMs gl = true) (hs : hasG gl (stOf gl) = true) {σ : Nat → Value} {m : Int} (hm : σ kM = .int .i64 m) {f : FuncId} {args : List AV} {a : AV}
    (h : ∀ (w : World) (va : Array Value), VRs (fun _ => none) σ args va.toList → Vars gl w → V w → Calls P f va w (fun e w' => ∃ u, e = .returned u ∧ VR (fun _ => none) σ a u ∧ Below w.heap.size w w')) : PRow P gl σ f args a V := by
  intro w va hv ⟨ρ, hR⟩ hva
  exact h w va hva (Vars.of hl hb hR hs hm) hv.now

/-- The end of a walk: the lowest frame's function has handed back. -/
def Wins (P : Program) (f : FuncId) (cs : List Frame) (Q : Ending → World → Prop) (M : Machine) : Prop := ∃ e w' fr, Q e w' ∧ Comes P M (lone fr cs w') e ∧ fr.fn = f ∧ fr.leaving P w' e
theorem Wins.steps {P : Program} {f : FuncId} {cs : List Frame} {Q : Ending → World → Prop} {M M' : Machine} (h : Steps P M M') (k : Wins P f cs Q M') : Wins P f cs Q M := by
  obtain ⟨e, w', fr, h1, h2, h3, h4⟩ := k
  exact ⟨e, w', fr, h1, h2.of_steps h, h3, h4⟩
theorem Wins.mono {P : Program} {f : FuncId} {cs : List Frame} {Q Q' : Ending → World → Prop} {M : Machine} (h : ∀ e w', Q e w' → Q' e w') (k : Wins P f cs Q M) : Wins P f cs Q' M := by
  obtain ⟨e, w', fr, h1, h2, h3, h4⟩ := k
  exact ⟨e, w', fr, h _ _ h1, h2, h3, h4⟩

section
variable {E E' : Env} {b : Nat → Prop} {ρ0 : Rho} {σ σ' : Nat → Value} {cs : List Frame} {m m' : AM} {M : Machine} {w : World}

/-- It hands back a plain value. -/
theorem Live.wins (ok : EnvS E σ) (mo : MemoOK E σ) (hv : Hold E.V b w) (h : Live E b ρ0 σ cs m M w) {n : Nat} {f : FuncId} {v : AV} (hx : retIs E f v (runS E doneA n m) = true) :
    Wins E.P f cs (fun e w' => ∃ u ρ, e = .returned u ∧ VR ρ σ v u ∧ Kept b w w') M := by
  obtain ⟨fr, w', u, ρ, h1, h2, h3, h4, h5⟩ := h.ret ok mo hv hx
  exact ⟨_, w', fr, ⟨u, ρ, rfl, h5, h2⟩, h1, h3, h4⟩

/-- The run of a pattern to a loop's head, and that it stands at another pattern there. -/
def toPat (E : Env) (gl : List Gv) (xs : List (Nat × Blk)) (L n k : Nat) (fn : FuncId) (nt : Nat) (keep : List (Nat × AV)) (bs : List Blk) (θ : List (Nat × AV)) (μ : List Nat) (m : AM) : Option (List AItem) :=
  match toLoop E L n k m with
  | some m' => match genOK gl xs fn nt keep bs θ μ [] m' with
    | true => some m'.fr.todo
    | false => none
  | none => none

theorem Live.toPat {gl : List Gv} {xs : List (Nat × Blk)} {L n k : Nat} {fn : FuncId} {nt : Nat} {keep : List (Nat × AV)} {bs : List Blk} {θ : List (Nat × AV)} {μ : List Nat} {td : List AItem} (ok : EnvS E σ) (mo : MemoOK E σ) (hv : Hold E.V b w) (h : Live E b ρ0 σ cs m M w)
    (hx : Eng.toPat E gl xs L n k fn nt keep bs θ μ m = some td) (hl : GlOK gl) (hb : bareMs gl = true) (hX : okX gl xs = true) (hM : σ' kM = σ kM) (hθ : TheOK σ σ' θ) :
    ∃ M' w' b', Steps E.P M M' ∧ Kept b w w' ∧ (∀ k, b k → b' k) ∧ Live E' b' ρ0 σ' cs (patM gl xs fn nt td keep bs) M' w' := by
  unfold Eng.toPat at hx
  split at hx
  case h_2 => cases hx
  rename_i m' hm'
  split at hx
  case h_2 => cases hx
  rename_i hg
  cases hx
  obtain ⟨M', w', h1, h2, h3⟩ := h.loop ok mo hv hm'
  obtain ⟨b', h4, h5⟩ := h3.gen (E' := E') hg hl hb hX hM hθ
  exact ⟨M', w', b', h1, h2, h4, h5⟩
end
end
end Go.Eng

/-! Blocks behind the variables that are only read: closed runs over them are contracts; an image laid there. No condition. -/
namespace Go.Eng
open Go.RowKit
noncomputable section

/-- A cell that comes to such names alone, and bears no symbol but the length bound's. -/
def inC (q : Bool) (p : Nat → Bool) : AV → Bool
  | .ptr i _ => p i
  | .slice i _ _ _ _ => p i
  | .map i => p i
  | .sym i => q && Nat.beq i kM
  | a => plainA a
def inV (q : Bool) (p : Nat → Bool) : AV → Bool
  | .agg l => l.all (inC q p)
  | a => inC q p a
def inE (q : Bool) (p : Nat → Bool) : List (AV × AV × Nat) → Bool
  | [] => true
  | (k, v, _) :: l => inV q p k && inV q p v && inE q p l
def inB (q : Bool) (p : Nat → Bool) : Blk → Bool
  | .cells cs _ _ => cs.all (inC q p)
  | .map es _ => inE q p es
  | _ => false
def isRo : Blk → Bool
  | .cells _ _ wr => !wr
  | _ => true
section
variable {q : Bool} {p : Nat → Bool} {ρ ρ' : Rho} {σ σ' : Nat → Value}
theorem inC_any (hρ : ∀ g L, p g = true → ρ g = some L → ρ' g = some L) (hM : q = true → σ' kM = σ kM) : ∀ {a : AV}, inC q p a = true → ∀ {v : Value}, VR ρ σ a v → VR ρ' σ' a v
  | .ptr _ _, h, _, ⟨L, hL, r⟩ => ⟨L, hρ _ _ h hL, r⟩
  | .slice _ _ _ _ _, h, _, ⟨L, a, c, hL, r⟩ => ⟨L, a, c, hρ _ _ h hL, r⟩
  | .map _, h, _, ⟨L, hL, r⟩ => ⟨L, hρ _ _ h hL, r⟩
  | .bool _, _, _, h => h
  | .int _ _, _, _, h => h
  | .str _, _, _, h => h
  | .nilptr, _, _, h => h
  | .nilslice, _, _, h => h
  | .nilmap, _, _, h => h
  | .nilFunc, _, _, h => h
  | .nilIface, _, _, h => h
  | .unk, _, _, h => h
  | .sym _, hb, _, ⟨h1, h2⟩ => by
    unfold inC at hb
    rw [Bool.and_eq_true] at hb
    have := Nat.eq_of_beq_eq_true hb.2
    subst this
    exact ⟨h1.trans (hM hb.1).symm, h2⟩
  | .func _ _ _, h, _, _ => Bool.noConfusion h
  | .yield _, h, _, _ => Bool.noConfusion h
  | .iface _ _, h, _, _ => Bool.noConfusion h
  | .agg _, h, _, _ => Bool.noConfusion h
  | .tuple _, h, _, _ => Bool.noConfusion h
  | .any, h, _, _ => Bool.noConfusion h
theorem inCs_any (hρ : ∀ g L, p g = true → ρ g = some L → ρ' g = some L) (hM : q = true → σ' kM = σ kM) : ∀ {l : List AV} {vs : List Value}, l.all (inC q p) = true → VRs ρ σ l vs → VRs ρ' σ' l vs
  | [], _, _, h => h
  | a :: l, _, hp, ⟨v, r, he, h, hl⟩ => by
    simp only [List.all_cons, Bool.and_eq_true] at hp
    exact ⟨v, r, he, inC_any hρ hM hp.1 h, inCs_any hρ hM hp.2 hl⟩
theorem inV_any (hρ : ∀ g L, p g = true → ρ g = some L → ρ' g = some L) (hM : q = true → σ' kM = σ kM) {a : AV} (h : inV q p a = true) {v : Value} (hv : VR ρ σ a v) : VR ρ' σ' a v := by
  unfold inV at h
  split at h
  · obtain ⟨vs, e, hl⟩ := hv
    exact ⟨vs, e, inCs_any hρ hM h hl⟩
  · exact inC_any hρ hM h hv
theorem inE_any (hρ : ∀ g L, p g = true → ρ g = some L → ρ' g = some L) (hM : q = true → σ' kM = σ kM) : ∀ {l : List (AV × AV × Nat)} {es : List MapEntry}, inE q p l = true → MR ρ σ l es → MR ρ' σ' l es
  | [], _, _, h => h
  | (k, v, b) :: l, _, h, ⟨e, r, he, h1, h2, h3, hl⟩ => by
    unfold inE at h
    simp only [Bool.and_eq_true] at h
    exact ⟨e, r, he, inV_any hρ hM h.1.1 h1, inV_any hρ hM h.1.2 h2, h3, inE_any hρ hM h.2 hl⟩
theorem inB_any (hρ : ∀ g L, p g = true → ρ g = some L → ρ' g = some L) (hM : q = true → σ' kM = σ kM) {b : Blk} (h : inB q p b = true) {L : Loc} {ob : Obj} (hb : BO ρ σ L b ob) : BO ρ' σ' L b ob := by
  cases b <;> first | (cases h; done) | skip
  · obtain ⟨c, t, fr, e, ht, z, hv, r⟩ := hb
    exact ⟨c, t, fr, e, ht, z, inCs_any hρ hM h hv, r⟩
  · obtain ⟨z, m, e, hm⟩ := hb
    exact ⟨z, m, e, inE_any hρ hM h hm⟩
end

/-- The names of blocks from 600 on. -/
def xN : Nat := 600
def isX (n i : Nat) : Bool := Nat.ble xN i && Nat.blt i (Nat.add xN n)
def noX (n i : Nat) : Bool := !isX n i
def numX : Nat → List Blk → List (Nat × Blk)
  | _, [] => []
  | i, b :: l => (i, b) :: numX (i + 1) l
/-- Blocks that are only read, from 600 on. -/
def xsOf (bs : List Blk) : List (Nat × Blk) := numX xN bs
/-- May these blocks lie there, beside those variables? -/
def fitX (gl : List Gv) (bs : List Blk) : Bool :=
  bs.all (fun b => inB false (isX (len bs)) b && isRo b) && gl.all (fun x => x.cs.all (inC true (noX (len bs))) && noX (len bs) x.g) && Nat.ble (Nat.add xN (len bs)) gN

theorem isX_iff {n i : Nat} : isX n i = true ↔ xN ≤ i ∧ i < xN + n := by
  unfold isX
  rw [Bool.and_eq_true, blt_iff, decide_eq_true_iff]
  exact ⟨fun h => ⟨Nat.le_of_ble_eq_true h.1, h.2⟩, fun h => ⟨Nat.ble_eq_true_of_le h.1, h.2⟩⟩
theorem numX_mem : ∀ {bs : List Blk} {i : Nat} {x : Nat × Blk}, x ∈ numX i bs → ∃ j, x.1 = i + j ∧ bs[j]? = some x.2
  | [], _, _, h => by cases h
  | b :: l, i, x, h => by
    rcases List.mem_cons.1 h with rfl | h
    · exact ⟨0, rfl, rfl⟩
    · obtain ⟨j, h1, h2⟩ := numX_mem h
      exact ⟨j + 1, by omega, by simpa using h2⟩

/-- In a world these blocks lie, by these names. -/
def HasX (bs : List Blk) (ρt : Rho) (w : World) : Prop :=
  ∀ j b, bs[j]? = some b → ∃ L ob, ρt (xN + j) = some L ∧ w.heap[L.blk]? = some ob ∧ ∀ σ, BO ρt σ L b ob
theorem HasX.hold {bs : List Blk} {ρt : Rho} {b : Nat → Prop} {w : World} (h : HasX bs ρt w) (hb : ∀ i L, isX bs.length i = true → ρt i = some L → b L.blk) : Hold (HasX bs ρt) b w :=
  ⟨h, fun w1 w2 h1 hK j x hx => by
    obtain ⟨L, ob, e1, e2, e3⟩ := h1 j x hx
    exact ⟨L, ob, e1, by rw [hK.block _ (hb _ L (isX_iff.2 ⟨by omega, by have := (List.getElem?_eq_some_iff.1 hx).1; omega⟩) e1)]; exact e2, e3⟩⟩

def rhoX (n : Nat) (ρt ρ : Rho) : Rho := fun i => match isX n i with | true => ρt i | false => ρ i
theorem rhoX_in {n i : Nat} {ρt ρ : Rho} (h : isX n i = true) : rhoX n ρt ρ i = ρt i := by unfold rhoX; rw [h]
theorem rhoX_out {n i : Nat} {ρt ρ : Rho} (h : noX n i = true) : rhoX n ρt ρ i = ρ i := by
  unfold noX at h
  unfold rhoX
  cases hx : isX n i with
  | true => rw [hx] at h; cases h
  | false => rfl

/-- The variables, and blocks that are only read. -/
theorem R.addX {gl : List Gv} {bs : List Blk} {ρ ρt : Rho} {σ : Nat → Value} {w : World} (hl : GlOK gl) (hf : fitX gl bs = true) (h : R (.at w.heap.size) ρ σ (stOf gl) w) (hX : HasX bs ρt w) : R (.at w.heap.size) (rhoX bs.length ρt ρ) σ (stX gl (xsOf bs)) w := by
  unfold fitX at hf
  simp only [Bool.and_eq_true, len_eq, List.all_eq_true] at hf
  obtain ⟨⟨f1, f2⟩, f3⟩ := hf
  have f3 : xN + bs.length ≤ gN := Nat.le_of_ble_eq_true f3
  have up : ∀ i b, (stX gl (xsOf bs)).get i = some b → (∃ j, i = xN + j ∧ bs[j]? = some b) ∨ (∃ x ∈ gl, i = x.g ∧ b = .cells x.cs x.el false ∧ noX bs.length i = true ∧ (stOf gl).get i = some b) := fun i b hi => by
    rcases stX_get gl hi with h1 | h1
    · obtain ⟨j, e1, e2⟩ := numX_mem (i := xN) h1
      exact .inl ⟨j, e1, e2⟩
    · obtain ⟨x, hx, e1, e2⟩ := stOf_get gl hl.small i b h1
      exact .inr ⟨x, hx, e1, e2, by rw [e1]; exact (f2 x hx).2, h1⟩
  have inn : ∀ {j b}, bs[j]? = some b → isX bs.length (xN + j) = true := fun {j b} hj => isX_iff.2 ⟨by omega, by have := (List.getElem?_eq_some_iff.1 hj).1; omega⟩
  have small : ∀ i b, (stX gl (xsOf bs)).get i = some b → i < gN := fun i b hi => by
    rcases up i b hi with ⟨j, rfl, hj⟩ | ⟨x, hx, rfl, _⟩
    · have := (isX_iff.1 (inn hj)).2; omega
    · exact hl.small x hx
  refine ⟨fun i hi => ?_, by rw [stX_next]; exact Nat.le_refl _, by rw [stX_next]; have := gN_most; omega, fun i b hi => ?_, fun i b hv => (by rw [Base.at_get] at hv; cases hv), fun i j b b' L L' hg hi _ _ _ _ => ?_, fun i b L hi _ hg => ?_, fun i b hi _ => ?_, fun g hg => ?_, h.size, h.nd⟩
  · rw [stX_next] at hi
    have hno : noX bs.length i = true := by
      unfold noX
      cases hx : isX bs.length i with
      | false => rfl
      | true => have := (isX_iff.1 hx).2; omega
    rw [rhoX_out hno]
    exact h.fresh i (by rw [stOf_next]; exact hi)
  · right
    rcases up i b hi with ⟨j, rfl, hj⟩ | ⟨x, hx, rfl, rfl, hno, hs⟩
    · obtain ⟨L, ob, e1, e2, e3⟩ := hX j b hj
      refine ⟨L, ob, by rw [rhoX_in (inn hj)]; exact e1, e2, inB_any (fun g L hg hL => by rw [rhoX_in hg]; exact hL) (fun e => by cases e) (f1 b (List.mem_of_getElem? hj)).1 (e3 σ)⟩
    · rcases h.live _ _ hs with ⟨_, hv⟩ | ⟨L, ob, hL, hob, c, t, fr, e, ht, z, hv, r⟩
      · rw [Base.at_get] at hv; cases hv
      refine ⟨L, ob, by rw [rhoX_out hno]; exact hL, hob, c, t, fr, e, ht, z, inCs_any (fun g L hg hL => by rw [rhoX_out hg]; exact hL) (fun _ => rfl) (List.all_eq_true.2 (f2 x hx).1) hv, r⟩
  · have := small i b hi; omega
  · have := small i b hi; omega
  · rcases up i b hi with ⟨j, rfl, hj⟩ | ⟨x, hx, rfl, rfl, _⟩
    · obtain ⟨q1, q2⟩ := f1 b (List.mem_of_getElem? hj)
      cases b <;> first | (cases q1; done) | skip
      · rename_i cs el wr
        have hw : wr = false := by simpa [isRo] using q2
        subst hw
        exact .inl ⟨_, _, rfl⟩
      · exact .inr ⟨_, _, rfl⟩
    · exact .inl ⟨_, _, rfl⟩
  · cases hx : isX bs.length g with
    | false =>
      rw [rhoX_out (by unfold noX; rw [hx]; rfl)]
      exact h.vars g hg
    | true =>
      have hx := isX_iff.1 hx
      obtain ⟨b, hb⟩ : ∃ b, bs[g - xN]? = some b := ⟨_, List.getElem?_eq_getElem (by omega)⟩
      obtain ⟨L, ob, e1, _⟩ := hX _ b hb
      rw [show xN + (g - xN) = g by omega] at e1
      refine ⟨L, by rw [rhoX_in (isX_iff.2 hx)]; exact e1, fun hv => ?_⟩
      have h1 : vN ≤ xN := by decide
      omega

/-- The engine's run of a call over blocks that are only read. -/
def rowRunX (E : Env) (gl : List Gv) (bs : List Blk) (f : FuncId) (args : List AV) (n : Nat) (v : AV) : Bool :=
  match callN E (stX gl (xsOf bs)) f args n with
  | some (x, _) => plainG v && avEq x v
  | none => false
theorem rowRunX_H {E : Env} {t : TypeId} {gl : List Gv} {bs : List Blk} {orows : List OR} {krows : List KR} {f : FuncId} {args : List AV} {n : Nat} {v : AV} (h : rowRunX (E.askH t orows (memoKH gl krows)) gl bs f args n v = true) : rowRunX (E.ask t orows (memoK gl krows)) gl bs f args n v = true := by
  rwa [Env.askH_eq, memoKH_eq] at h

/-- A closed run over such blocks is a contract. -/
theorem CallsV.runX {E : Env} {gl : List Gv} {bs : List Blk} {ρt : Rho} {σ : Nat → Value} {f : FuncId} {args : List AV} {n : Nat} {v : AV} {va : Array Value} {u : Value} (hl : GlOK gl) (hf : fitX gl bs = true)
    (ok : ∀ m, EnvS E (withM σ m)) (mo : ∀ m, MemoOK E (withM σ m))
    (run : rowRunX E gl bs f args n v = true) (ha : ∀ m ρ, (∀ i, isX bs.length i = true → ρ i = ρt i) → VRs ρ (withM σ m) args va.toList) (hu : ∀ m, VR (fun _ => none) (withM σ m) v u) (ht : tellsV v = true)
    (hX : ∀ w, E.V w → HasX bs ρt w) (hV : ∀ w, E.V w → Hold E.V (fun k => k < w.heap.size) w) : CallsV E.P gl f va u E.V := by
  intro w ⟨m, hm⟩ hw
  obtain ⟨ρ, hR⟩ := hm (withM σ m) (withM_kM σ m)
  have hR2 := hR.addX hl hf (hX w hw)
  unfold rowRunX at run
  split at run
  case h_2 => cases run
  rename_i x s' hx
  simp only [Bool.and_eq_true] at run
  obtain ⟨hv, he⟩ := run
  have := avEq_eq _ _ he
  subst this
  intro cs
  obtain ⟨e, w', fr, ⟨u', ρ', rfl, _, hu', _, hB⟩, h2⟩ := callN_ok (ok m) (mo m) (hV w hw) hR2 (ha m _ fun i hi => rhoX_in hi) hx cs
  exact ⟨_, w', fr, ⟨by rw [tellsV_fun ht (plainV_any (ρ' := fun _ => none) hv hu') (hu m)], hB.at⟩, h2⟩
/-- The same, under rows. -/
theorem CallsV.scriptX {E : Env} {gl : List Gv} {bs : List Blk} {ρt : Rho} (ok : EnvOK E) (tS : TypeId) {σ : Nat → Value} {f : FuncId} {args : List AV} {n : Nat} {v : AV} {va : Array Value} {u : Value} {orows : List OR} {krows : List KR} (hl : GlOK gl) (hf : fitX gl bs = true)
    (ho : ∀ m, ∀ r ∈ orows, RowOK (E.ask tS orows (memoK gl krows)) tS (withM σ m) r) (hk : ∀ m, ∀ r ∈ krows, KRow E.P gl (withM σ m) r.f r.args r.img E.V)
    (run : rowRunX (E.ask tS orows (memoK gl krows)) gl bs f args n v = true) (ha : ∀ m ρ, (∀ i, isX bs.length i = true → ρ i = ρt i) → VRs ρ (withM σ m) args va.toList) (hu : ∀ m, VR (fun _ => none) (withM σ m) v u) (ht : tellsV v = true)
    (hX : ∀ w, E.V w → HasX bs ρt w) (hV : ∀ w, E.V w → Hold E.V (fun k => k < w.heap.size) w) : CallsV E.P gl f va u E.V :=
  CallsV.runX (E := E.ask tS orows (memoK gl krows)) (ρt := ρt) hl hf (fun m => EnvS.ask ok (ho m)) (fun m => MemoOK.ofK (E := E.ask tS orows (memoK gl krows)) (hk m)) run ha hu ht hX hV

/-! ### An image laid there -/
def roB : Blk → Blk
  | .cells cs el _ => .cells cs el false
  | b => b
theorem BO_ro {ρ : Rho} {σ : Nat → Value} {L : Loc} {b : Blk} {ob : Obj} (h : BO ρ σ L b ob) : BO ρ σ L (roB b) ob := by
  cases b <;> first | exact h | skip
  obtain ⟨c, t, fr, e, ht, z, hv, r1, r2, _⟩ := h
  exact ⟨c, t, fr, e, ht, z, hv, r1, r2, fun e => by cases e⟩
def xB (b : Blk) : Blk := match renB (fun j => Nat.add xN j) b with
  | some y => roB y
  | none => .siter [] 0
/-- An image's blocks, by the names from 600 on. -/
def toX (i : Img) : List Blk := i.bs.map xB
def isG (i : Nat) : Bool := Nat.ble gN i
def okB (b : Blk) : Bool := match renB (fun j => Nat.add gN j) b with
  | some y => inB false isG y
  | none => false
def rhoT (n : Nat) (ρ : Rho) : Rho := fun k => match isX n k with | true => ρ (gN + (k - xN)) | false => none

theorem renB_some {f g : Nat → Nat} {b y : Blk} (h : renB f b = some y) : ∃ z, renB g b = some z := by
  cases b <;> first | (cases h; done) | exact ⟨_, rfl⟩
theorem stOf_eta (gl : List Gv) : ∃ h, stOf gl = ⟨gN, h⟩ := by
  have h := stOf_next gl
  cases hs : stOf gl with
  | mk n t => rw [hs] at h; cases h; exact ⟨t, rfl⟩

theorem R.toX {gl : List Gv} {i : Img} {v : AV} {s' : St} {n : Nat} {ρ' : Rho} {σ : Nat → Value} {w' : World} (hp : place i (stOf gl) = some (v, s')) (hR : R (.at n) ρ' σ s' w') (hi : i.bs.all okB = true) :
    HasX (toX i) (rhoT i.bs.length ρ') w' ∧ (∀ k L, rhoT i.bs.length ρ' k = some L → n ≤ L.blk ∧ L.blk < w'.heap.size) ∧ ∀ q u, i.v = .ptr (gN + q) 0 → VR ρ' σ v u → q < i.bs.length → ∃ L, rhoT i.bs.length ρ' (xN + q) = some L ∧ u = .pointer (some ⟨L.blk, L.sh, none⟩) := by
  obtain ⟨t0, hst⟩ := stOf_eta gl
  rw [hst] at hp
  unfold place at hp
  simp only at hp
  split at hp
  case h_2 => cases hp
  rename_i s2 hput
  cases hp
  have hg0 : 0 < gN := by unfold gN; omega
  have hmost : gN ≤ T.most + 1 := by have := gN_most; omega
  obtain ⟨p1, p2, p3, p4⟩ := putB_spec hput hg0 hmost
  replace p1 : s'.next = gN + i.bs.length := p1
  replace p4 : ∀ j b, i.bs[j]? = some b → ∃ y, renB (fun j => Nat.add gN j) b = some y ∧ s'.get (gN + j) = some y := p4
  have tin : ∀ {j}, j < i.bs.length → rhoT i.bs.length ρ' (xN + j) = ρ' (gN + j) := fun {j} hj => by
    unfold rhoT
    rw [isX_iff.2 ⟨by omega, by omega⟩, Nat.add_sub_cancel_left]
  have live : ∀ {j}, j < i.bs.length → ∃ b y L ob, i.bs[j]? = some b ∧ renB (fun j => Nat.add gN j) b = some y ∧ s'.get (gN + j) = some y ∧ ρ' (gN + j) = some L ∧ w'.heap[L.blk]? = some ob ∧ BO ρ' σ L y ob := fun {j} hj => by
    obtain ⟨b, hb⟩ : ∃ b, i.bs[j]? = some b := ⟨_, List.getElem?_eq_getElem hj⟩
    obtain ⟨y, hy, hg⟩ := p4 j b hb
    rcases hR.live _ _ hg with ⟨_, hv⟩ | ⟨L, ob, hL, hob, hbo⟩
    · rw [Base.at_get] at hv; cases hv
    · exact ⟨b, y, L, ob, hb, hy, hg, hL, hob, hbo⟩
  refine ⟨fun j x hx => ?_, fun k L hL => ?_, fun q u hv hu hq => ?_⟩
  · have hj : j < i.bs.length := by have := (List.getElem?_eq_some_iff.1 hx).1; unfold Eng.toX at this; rw [List.length_map] at this; exact this
    obtain ⟨b, y, L, ob, hb, hy, hg, hL, hob, hbo⟩ := live hj
    refine ⟨L, ob, by rw [tin hj]; exact hL, hob, fun σ' => ?_⟩
    have hxe : x = xB b := by
      unfold Eng.toX at hx
      rw [List.getElem?_map, hb] at hx
      exact (Option.some.inj hx).symm
    obtain ⟨z, hz⟩ := renB_some (g := fun j => Nat.add xN j) hy
    have hxz : x = roB z := by rw [hxe]; unfold xB; rw [hz]
    rw [hxz]
    apply BO_ro
    have hok := List.all_eq_true.1 hi b (List.mem_of_getElem? hb)
    unfold okB at hok
    rw [hy] at hok
    have h1 : BO (fun k => if gN ≤ k then ρ' k else none) σ' L y ob := inB_any (q := false) (p := isG) (σ' := σ') (fun g L hg hL => by
      have hg : gN ≤ g := Nat.le_of_ble_eq_true hg
      simp only [if_pos hg]; exact hL) (fun e => by cases e) hok hbo
    refine BO_ren (f := fun j => Nat.add gN j) (g := fun j => Nat.add xN j) (fun k L hL => ?_) hy hz h1
    unfold renN at hL ⊢
    split at hL
    · rename_i hb
      have hk : k < gN := by have : Nat.ble (k + 1) gN = true := hb; exact Nat.le_of_ble_eq_true this
      rw [if_neg (by omega)] at hL; cases hL
    · replace hL : (if gN ≤ gN + (k - gN) then ρ' (gN + (k - gN)) else none) = some L := hL
      rw [if_pos (by omega)] at hL
      show rhoT i.bs.length ρ' (xN + (k - gN)) = some L
      have hlt : k - gN < i.bs.length := by
        apply Nat.lt_of_not_le
        intro hge
        rw [hR.fresh (gN + (k - gN)) (by rw [p1]; omega)] at hL
        cases hL
      rw [tin hlt]; exact hL
  · unfold rhoT at hL
    split at hL
    case h_2 => cases hL
    rename_i hx
    have hx := isX_iff.1 hx
    obtain ⟨b, y, L', ob, hb, hy, hg, hL', hob, _⟩ := live (j := k - xN) (by omega)
    rw [hL'] at hL; cases hL
    exact ⟨Nat.le_of_not_lt (hR.own _ _ L hg hL' (by omega)), lt_of_get hob⟩
  · rw [hv] at hu
    have hren : ren (fun j => Nat.add gN j) (.ptr (gN + q) 0) = .ptr (gN + q) 0 := by
      unfold ren renN
      have : Nat.blt (gN + q) gN = false := by rw [blt_iff, decide_eq_false_iff_not]; omega
      rw [this]
      show AV.ptr (gN + (gN + q - gN)) 0 = _
      rw [Nat.add_sub_cancel_left]
    rw [hren] at hu
    obtain ⟨L, hL, e⟩ := hu
    exact ⟨L, by rw [tin hq]; exact hL, e⟩

/-! ### Blocks that are neither the run's own nor kept -/
/-- All but those blocks stays as it is. -/
structure But (G : Nat → Prop) (w w' : World) : Prop where
  os : w'.os = w.os
  tape : w'.tape = w.tape
  output : w'.output = w.output
  size : w.heap.size ≤ w'.heap.size
  block : ∀ k, k < w.heap.size → ¬ G k → w'.heap[k]? = w.heap[k]?
theorem But.kept {G b : Nat → Prop} {w w' : World} (h : But G w w') (hb : ∀ k, b k → k < w.heap.size ∧ ¬ G k) : Kept b w w' := ⟨h.os, h.tape, h.output, h.size, fun k hk => h.block k (hb k hk).1 (hb k hk).2⟩
theorem But.of {G : Nat → Prop} {w w' : World} (h : Below w.heap.size w w') : But G w w' := ⟨h.os, h.tape, h.output, h.size, fun k hk _ => h.block k hk⟩

section
variable {E E' : Env} {b G : Nat → Prop} {ρ0 : Rho} {σ σ' : Nat → Value} {cs : List Frame} {m m' : AM} {M : Machine} {w : World}
end
end
end Go.Eng
