/- The engine: an abstract machine that runs closed code of any program, and its proof: part 14 of 14. No condition. -/
import Derived.Test.YtnnhijfbdkokkaaGreatDoorE13
/-! Oracles that look at memory that stays as it is. No condition. -/
namespace Go.Eng
open Go.RowKit
noncomputable section

/-- The oracle tells what the machine's operation does. -/
def OraRow (E : Env) (σ : Nat → Value) (o : Op) (as : List AV) (a : AV) : Prop :=
  ∀ (B : Base) (ρ : Rho) (tm : T AV) (ev : Operand → Value) (s : St) (w : World), E.V w → R B ρ σ s w → EvOK ρ σ tm ev → aevals tm o.operands.toList = some as →
    ∀ oper : Oper, oper.op = o → ResOK B ρ σ (.val a s) w ((execOp ev oper).run E.P w)
theorem ORow.row {E : Env} {σ : Nat → Value} (ok : EnvOK E) {o : Op} {as : List AV} {a : AV} (h : ORow E σ o as a) : OraRow E σ o as a := by
  intro B ρ tm ev s w _ hR he hop oper e
  subst e
  exact (aop0_ok ok hR he.mapV (h (tm.mapV (conc σ)) s (aevals_mapV hop))).back

def codeML (u : List TypeId) : Nat := match u with
  | [u] => Nat.add (Nat.mul 8 u) 3
  | _ => 0
def codeMS (u : TypeId) : Option Operand → Option Operand → Option Operand → Nat
  | some _, some _, none => Nat.add (Nat.mul 8 u) 4
  | some _, none, none => Nat.add (Nat.mul 8 u) 5
  | none, some _, none => Nat.add (Nat.mul 8 u) 6
  | _, _, _ => 0
/-- What an operation on memory is, by a number. -/
def codeM : Op → Nat
  | .load u _ => Nat.add (Nat.mul 8 u) 1
  | .indexAddr u _ _ => Nat.add (Nat.mul 8 u) 2
  | .call c => match c.callee with
    | .builtin .len => codeML c.argTypes.toList
    | _ => 0
  | .slice u _ lo hi mx => codeMS u lo hi mx
  | _ => 0

def RowM (E : Env) (σ : Nat → Value) (r : OR) : Prop := ∀ o, oraO o = true → codeM o = r.k → OraRow E σ o r.as r.v

/-- The environment with an oracle, one of memory too, and known calls. -/
def Env.askM (E : Env) (t : TypeId) (rows mrows : List OR) (m : FuncId → List AV → St → Option (AV × St)) : Env :=
  { E with memo := m, on := true, ora := fun o as => match findOH (codeO t o) as rows with
    | some a => some a
    | none => findOH (codeM o) as mrows }

theorem EnvS.askM {E : Env} {σ : Nat → Value} {t : TypeId} {rows mrows : List OR} {m : FuncId → List AV → St → Option (AV × St)} (ok : EnvOK E) (h : ∀ r ∈ rows, RowOK (E.askM t rows mrows m) t σ r) (hm : ∀ r ∈ mrows, RowM (E.askM t rows mrows m) σ r) : EnvS (E.askM t rows mrows m) σ := by
  have ok' : EnvOK (E.askM t rows mrows m) := ⟨ok.ty, ok.fns, ok.mixed⟩
  refine ⟨ok', fun _ o as a ho ha B ρ tm ev s w hV hR he hop oper e => ?_⟩
  replace ha : (match findOH (codeO t o) as rows with | some a => some a | none => findOH (codeM o) as mrows) = some a := ha
  split at ha
  · rename_i x hx
    cases ha
    rw [findOH_eq] at hx
    obtain ⟨r, hr, h1, rfl, rfl⟩ := findO_mem hx
    exact (h r hr o ho h1.symm).row ok' B ρ tm ev s w hV hR he hop oper e
  · rw [findOH_eq] at ha
    obtain ⟨r, hr, h1, rfl, rfl⟩ := findO_mem ha
    exact hm r hr o ho h1.symm B ρ tm ev s w hV hR he hop oper e

section
variable {E : Env} {σ : Nat → Value} {u : Nat}

theorem codeML_lt (l : List TypeId) : codeML l = 0 ∨ ∃ v : Nat, l = [v] ∧ codeML l = 8 * v + 3 := by
  unfold codeML
  split
  · exact .inr ⟨_, rfl, rfl⟩
  · exact .inl rfl
theorem codeMS_lt (v : Nat) (a b c : Option Operand) : codeMS v a b c = 0 ∨ ((∃ x y, a = some x ∧ b = some y ∧ c = none) ∧ codeMS v a b c = 8 * v + 4) ∨ ((∃ x, a = some x ∧ b = none ∧ c = none) ∧ codeMS v a b c = 8 * v + 5) ∨ ((∃ y, a = none ∧ b = some y ∧ c = none) ∧ codeMS v a b c = 8 * v + 6) := by
  unfold codeMS
  split
  · exact .inr (.inl ⟨⟨_, _, rfl, rfl, rfl⟩, rfl⟩)
  · exact .inr (.inr (.inl ⟨⟨_, rfl, rfl, rfl⟩, rfl⟩))
  · exact .inr (.inr (.inr ⟨⟨_, rfl, rfl, rfl⟩, rfl⟩))
  · exact .inl rfl
theorem codeM_call (c : Call) : codeM (.call c) = 0 ∨ (c.callee = .builtin .len ∧ ∃ v : Nat, c.argTypes.toList = [v] ∧ codeM (.call c) = 8 * v + 3) := by
  show (match c.callee with | .builtin .len => codeML c.argTypes.toList | _ => 0) = 0 ∨ (c.callee = .builtin .len ∧ ∃ v : Nat, c.argTypes.toList = [v] ∧ (match c.callee with | .builtin .len => codeML c.argTypes.toList | _ => 0) = 8 * v + 3)
  split
  · rename_i hc
    rcases codeML_lt c.argTypes.toList with h | ⟨v, h1, h2⟩
    · exact .inl h
    · exact .inr ⟨hc, v, h1, h2⟩
  · exact .inl rfl

/-- A cell's value. -/
theorem RowM.load {ti : TyI} {i blk off : Nat} {a : AV} (hp : σ i = .pointer (some ⟨blk, off, none⟩)) (ht : E.ty.get u = some ti) (hA : ti.isAgg = false)
    (hV : ∀ w, E.V w → ∃ c t fr v, w.heap[blk]? = some (.cells c t fr) ∧ c[off]? = some v ∧ ∀ ρ, VR ρ σ a v) (ok : EnvOK E) : RowM E σ ⟨Nat.add (Nat.mul 8 u) 1, [.sym i], a⟩ := by
  intro o ho hk
  replace hk : codeM o = 8 * u + 1 := hk
  cases o <;> first | (cases ho; done) | (exfalso; have h0 := hk; change 0 = _ at h0; omega) | skip
  case load v x =>
    obtain ⟨v, rfl⟩ : ∃ z : Nat, z = v := ⟨v, rfl⟩
    have hk : 8 * v + 1 = 8 * u + 1 := hk
    have hv : v = u := by omega
    subst hv
    intro B ρ tm ev s w hW hR he hop oper e
    have hop : aevals tm [x] = some [.sym i] := hop
    have hx := he x _ (aevals_one hop)
    obtain ⟨hx, _⟩ := hx
    obtain ⟨c, t, fr, v', hc, hcv, hvr⟩ := hV w hW
    obtain ⟨dst, op, type, pos, after, guard⟩ := oper
    cases e
    have hagg := ok.run_isAgg ht w
    rw [hA] at hagg
    show ResOK B ρ σ _ w ((do pure (.value (← Instr.loadAt v (ev x))) : Sem Next).run E.P w)
    refine res_of_val0 hR (v := v') ?_ (hvr ρ)
    rw [hx, hp]
    have h1 : (loadVar v ⟨blk, off, none⟩).run E.P w = .ok v' w := by
      simp only [loadVar, Sem.run_bind, hagg, Result.andThen_ok, Bool.false_eq_true, if_false]
      exact run_load_known (P := E.P) (o := off) hc hcv
    simp only [Instr.loadAt, Instr.sureAddr, Sem.run_bind, Sem.run_pure, Result.andThen_ok, h1]
  case indexAddr v x y => exfalso; obtain ⟨v, rfl⟩ : ∃ z : Nat, z = v := ⟨v, rfl⟩; have hk : 8 * v + 2 = 8 * u + 1 := hk; omega
  case slice v x lo hi mx => exfalso; obtain ⟨v, rfl⟩ : ∃ z : Nat, z = v := ⟨v, rfl⟩; have hk : codeMS v lo hi mx = 8 * u + 1 := hk; rcases codeMS_lt v lo hi mx with h | ⟨_, h⟩ | ⟨_, h⟩ | ⟨_, h⟩ <;> omega
  case call c => exfalso; rcases codeM_call c with h | ⟨_, v, _, h⟩ <;> omega

/-- A cell's place in a slice. -/
theorem RowM.at {e : TypeId} {i j blk off len cap n : Nat} {kd : IntKind} {x1 : AV} (hu : und E u = some (.slice e)) (hz : szOf E e = some 1) (hs : σ i = .slice (some ⟨blk, off, none⟩) len cap) (hx : conc σ x1 = .int kd (Int.ofNat n)) (hn : n < len) (hj : σ j = .pointer (some ⟨blk, off + n, none⟩)) (ok : EnvOK E) :
    RowM E σ ⟨Nat.add (Nat.mul 8 u) 2, [.sym i, x1], .sym j⟩ := by
  intro o ho hk
  replace hk : codeM o = 8 * u + 2 := hk
  cases o <;> first | (cases ho; done) | (exfalso; have h0 := hk; change 0 = _ at h0; omega) | skip
  case load v x => exfalso; obtain ⟨v, rfl⟩ : ∃ z : Nat, z = v := ⟨v, rfl⟩; have hk : 8 * v + 1 = 8 * u + 2 := hk; omega
  case indexAddr v x y =>
    obtain ⟨v, rfl⟩ : ∃ z : Nat, z = v := ⟨v, rfl⟩
    have hk : 8 * v + 2 = 8 * u + 2 := hk
    have hv : v = u := by omega
    subst hv
    intro B ρ tm ev s w hW hR he hop oper e'
    have hop : aevals tm [x, y] = some [.sym i, x1] := hop
    obtain ⟨h1, h2⟩ := aevals_cons hop
    have h2 := aevals_one h2
    obtain ⟨hxv, _⟩ := he x _ h1
    have hyv := conc_ok (he y _ h2)
    rw [hx] at hyv
    have hyv : ev y = .int kd (Int.ofNat n) := hyv
    obtain ⟨dst, op, type, pos, after, guard⟩ := oper
    cases e'
    have hu' := ok.run_und hu w
    have hs' := ok.run_sz hz w
    show ResOK B ρ σ _ w ((do pure (.value (← Instr.indexAt v (ev x) (ev y))) : Sem Next).run E.P w)
    refine res_of_val0 hR (v := .pointer (some ⟨blk, off + n, none⟩)) ?_ ⟨hj.symm, rfl⟩
    have hin : 0 ≤ (Int.ofNat n) ∧ (Int.ofNat n) < (len : Int) := ⟨by simp, by simpa using hn⟩
    rw [hxv, hs, hyv]
    simp only [Instr.indexAt, asIntOf, Sem.run_bind, Sem.run_pure, Result.andThen_ok, hu']
    rw [if_pos hin]
    simp only [Sem.run_bind, hs', Result.andThen_ok, Sem.run_pure, addr_add]
    simp
  case slice v x lo hi mx => exfalso; obtain ⟨v, rfl⟩ : ∃ z : Nat, z = v := ⟨v, rfl⟩; have hk : codeMS v lo hi mx = 8 * u + 2 := hk; rcases codeMS_lt v lo hi mx with h | ⟨_, h⟩ | ⟨_, h⟩ | ⟨_, h⟩ <;> omega
  case call c => exfalso; rcases codeM_call c with h | ⟨_, v, _, h⟩ <;> omega

/-- A slice's length. -/
theorem RowM.len {e : TypeId} {i len cap : Nat} {ad : Option Addr} {a : AV} (hu : und E u = some (.slice e)) (hs : σ i = .slice ad len cap) (ha : conc σ a = .int .i64 (Int.ofNat len)) (ok : EnvOK E) : RowM E σ ⟨Nat.add (Nat.mul 8 u) 3, [.sym i], a⟩ := by
  intro o ho hk
  replace hk : codeM o = 8 * u + 3 := hk
  cases o <;> first | (cases ho; done) | (exfalso; have h0 := hk; change 0 = _ at h0; omega) | skip
  case load v x => exfalso; obtain ⟨v, rfl⟩ : ∃ z : Nat, z = v := ⟨v, rfl⟩; have hk : 8 * v + 1 = 8 * u + 3 := hk; omega
  case indexAddr v x y => exfalso; obtain ⟨v, rfl⟩ : ∃ z : Nat, z = v := ⟨v, rfl⟩; have hk : 8 * v + 2 = 8 * u + 3 := hk; omega
  case slice v x lo hi mx => exfalso; obtain ⟨v, rfl⟩ : ∃ z : Nat, z = v := ⟨v, rfl⟩; have hk : codeMS v lo hi mx = 8 * u + 3 := hk; rcases codeMS_lt v lo hi mx with h | ⟨_, h⟩ | ⟨_, h⟩ | ⟨_, h⟩ <;> omega
  case call c =>
    rcases codeM_call c with h | ⟨hc, v, hat, h⟩
    · omega
    have hv : v = u := by omega
    subst hv
    intro B ρ tm ev s w hW hR he hop oper e'
    have hop : aevals tm c.operands.toList = some [.sym i] := hop
    have hop' : c.operands.toList = c.args.toList := by unfold Call.operands; rw [hc]; simp
    rw [hop'] at hop
    have hargs := aevals_rel he hop
    obtain ⟨dst, op, type, pos, after, guard⟩ := oper
    cases e'
    obtain ⟨cs, hres⟩ : ∃ cs, (resolve ev c type).run E.P w = .ok { target := .builtin .len c.argTypes type cs, args := c.args.map ev } w := ⟨_, by unfold resolve; rw [hc]; rfl⟩
    show ResOK B ρ σ _ w ((do let d ← resolve ev c type; invoke d.target d.args : Sem Next).run E.P w)
    simp only [Sem.run_bind, hres, Result.andThen_ok, invoke]
    obtain ⟨x, r1, e1, ⟨hxv, _⟩, hr⟩ := hargs
    cases hr
    have hva : c.args.map ev = #[x] := Array.ext' (by simpa using e1)
    have hats : c.argTypes = (v :: ([] : List TypeId)).toArray := Array.ext' (by simpa using hat)
    rw [hva, hats]
    have hu' := ok.run_und hu w
    refine res_of_val0 hR (v := goInt len) ?_ (conc_back (by rw [ha]; rfl))
    rw [hxv, hs]
    simp [Builtin.len_, hu']

theorem optOf_conc {tm : T AV} {ρ : Rho} {ev : Operand → Value} (he : EvOK ρ σ tm ev) {x : Operand} {a : AV} {k : IntKind} {n : Nat} (hx : aeval tm x = some a) (ha : conc σ a = .int k (Int.ofNat n)) : ev x = .int k (Int.ofNat n) := by
  have h := conc_ok (he x a hx)
  rw [ha] at h
  exact h

/-- A part of a slice. -/
theorem RowM.part {e : TypeId} {i j blk off len cap lo hi kk : Nat} {as : List AV} (hu : und E u = some (.slice e)) (hz : szOf E e = some 1) (hs : σ i = .slice (some ⟨blk, off, none⟩) len cap) (hlo : lo ≤ hi) (hhi : hi ≤ cap) (hlc : lo < cap) (hj : σ j = .slice (some ⟨blk, off + lo, none⟩) (hi - lo) (cap - lo))
    (hk : (kk = Nat.add (Nat.mul 8 u) 4 ∧ ∃ b c kb kc, as = [.sym i, b, c] ∧ conc σ b = .int kb (Int.ofNat lo) ∧ conc σ c = .int kc (Int.ofNat hi)) ∨ (kk = Nat.add (Nat.mul 8 u) 5 ∧ hi = len ∧ ∃ b kb, as = [.sym i, b] ∧ conc σ b = .int kb (Int.ofNat lo)) ∨ (kk = Nat.add (Nat.mul 8 u) 6 ∧ lo = 0 ∧ ∃ c kc, as = [.sym i, c] ∧ conc σ c = .int kc (Int.ofNat hi)))
    (ok : EnvOK E) : RowM E σ ⟨kk, as, .sym j⟩ := by
  intro o ho hko
  replace hko : codeM o = kk := hko
  have hk3 : kk = 8 * u + 4 ∨ kk = 8 * u + 5 ∨ kk = 8 * u + 6 := by
    rcases hk with h | h | h
    · exact .inl h.1
    · exact .inr (.inl h.1)
    · exact .inr (.inr h.1)
  cases o <;> first | (cases ho; done) | (exfalso; have h0 := hko; change 0 = _ at h0; omega) | skip
  case load v x => exfalso; obtain ⟨v, rfl⟩ : ∃ z : Nat, z = v := ⟨v, rfl⟩; have hk : 8 * v + 1 = kk := hko; omega
  case indexAddr v x y => exfalso; obtain ⟨v, rfl⟩ : ∃ z : Nat, z = v := ⟨v, rfl⟩; have hk : 8 * v + 2 = kk := hko; omega
  case call c => exfalso; rcases codeM_call c with h | ⟨_, v, _, h⟩ <;> omega
  case slice v x l h m =>
    obtain ⟨v, rfl⟩ : ∃ z : Nat, z = v := ⟨v, rfl⟩
    have hko : codeMS v l h m = kk := hko
    have fin : ∀ (B : Base) (ρ : Rho) (ev : Operand → Value) (s : St) (w : World) (l h : Option Operand), R B ρ σ s w → ev x = σ i → (Instr.sliceBounds true len cap (l.map ev) (h.map ev) none).run E.P w = .ok (lo, hi, cap) w →
        ResOK B ρ σ (.val (.sym j) s) w ((do pure (.value (← Instr.sliceAt u (ev x) (l.map ev) (h.map ev) none)) : Sem Next).run E.P w) := by
      intro B ρ ev s w l h hR hx hb
      have hu' := ok.run_und hu w
      have hs' := ok.run_sz hz w
      refine res_of_val0 hR (v := .slice (some ⟨blk, off + lo, none⟩) (hi - lo) (cap - lo)) ?_ ⟨hj.symm, rfl⟩
      rw [hx, hs]
      have hne : ¬ cap = lo := by omega
      simp only [Instr.sliceAt, Sem.run_bind, hu', Result.andThen_ok, Instr.slice, hb, hs', Sem.run_pure, if_neg hne, Option.map_some, addr_add, Nat.mul_one]
    intro B ρ tm ev s w hW hR he hop oper e'
    obtain ⟨dst, op, type, pos, after, guard⟩ := oper
    cases e'
    show ResOK B ρ σ _ w ((do pure (.value (← Instr.sliceAt v (ev x) (l.map ev) (h.map ev) (m.map ev))) : Sem Next).run E.P w)
    rcases codeMS_lt v l h m with h0 | ⟨⟨y1, y2, rfl, rfl, rfl⟩, h0⟩ | ⟨⟨y1, rfl, rfl, rfl⟩, h0⟩ | ⟨⟨y2, rfl, rfl, rfl⟩, h0⟩
    · omega
    · rcases hk with ⟨h1, b, c, kb, kc, rfl, hb, hc⟩ | ⟨h1, _⟩ | ⟨h1, _⟩ <;> replace h1 : kk = _ := h1
      · have hv : v = u := by have h1 : kk = 8 * u + 4 := h1; omega
        subst hv
        have hop : aevals tm [x, y1, y2] = some [.sym i, b, c] := hop
        obtain ⟨q1, q2⟩ := aevals_cons hop
        obtain ⟨q2, q3⟩ := aevals_cons q2
        have q3 := aevals_one q3
        refine fin B ρ ev s w (some y1) (some y2) hR (he x _ q1).1 ?_
        simp only [Option.map_some, optOf_conc he q2 hb, optOf_conc he q3 hc, Instr.sliceBounds, Sem.run_bind, Sem.run_pure, Result.andThen_ok, run_bound hlo, run_bound hhi]
      · have h1 : kk = 8 * u + 5 := h1; omega
      · have h1 : kk = 8 * u + 6 := h1; omega
    · rcases hk with ⟨h1, _⟩ | ⟨h1, hlen, b, kb, rfl, hb⟩ | ⟨h1, _⟩ <;> replace h1 : kk = _ := h1
      · have h1 : kk = 8 * u + 4 := h1; omega
      · have hv : v = u := by have h1 : kk = 8 * u + 5 := h1; omega
        subst hv
        have hop : aevals tm [x, y1] = some [.sym i, b] := hop
        obtain ⟨q1, q2⟩ := aevals_cons hop
        have q2 := aevals_one q2
        refine fin B ρ ev s w (some y1) none hR (he x _ q1).1 ?_
        subst hlen
        simp only [Option.map_some, Option.map_none, optOf_conc he q2 hb, Instr.sliceBounds, Sem.run_bind, Sem.run_pure, Result.andThen_ok, run_bound hlo]
      · have h1 : kk = 8 * u + 6 := h1; omega
    · rcases hk with ⟨h1, _⟩ | ⟨h1, _⟩ | ⟨h1, hl0, c, kc, rfl, hc⟩ <;> replace h1 : kk = _ := h1
      · have h1 : kk = 8 * u + 4 := h1; omega
      · have h1 : kk = 8 * u + 5 := h1; omega
      · have hv : v = u := by have h1 : kk = 8 * u + 6 := h1; omega
        subst hv
        have hop : aevals tm [x, y2] = some [.sym i, c] := hop
        obtain ⟨q1, q2⟩ := aevals_cons hop
        have q2 := aevals_one q2
        refine fin B ρ ev s w none (some y2) hR (he x _ q1).1 ?_
        subst hl0
        simp only [Option.map_some, Option.map_none, optOf_conc he q2 hc, Instr.sliceBounds, Sem.run_bind, Sem.run_pure, Result.andThen_ok, run_bound hhi]
end
end
end Go.Eng

/-! Known calls from contracts, structs among their arguments; loops and calls of a function whose contract is sought. No condition. -/
namespace Go.Eng
open Go.RowKit
noncomputable section

/-- A row with structs among its arguments that hands back plain values. -/
theorem KRow.ofPG {V : World → Prop} {P : Program} {gl : List Gv} {σ : Nat → Value} (hl : GlOK gl) {f : FuncId} {args : List AV} {a : AV} (ha : args.all plainG = true) (hp : plainA a = true ∨ (∃ l, a = .tuple l ∧ l.all plainA = true)) (h : PRow P gl σ f args a V) : KRow P gl σ f args ⟨a, []⟩ V := by
  intro B ρ s w va hv0 hR hs hva v s' hpl cs
  obtain ⟨rfl, rfl⟩ := place_nil hp hpl
  obtain ⟨e, w', fr, ⟨u, rfl, hu, hB⟩, h2⟩ := h w va (hv0.wide hR.size) ⟨_, hR.start hl hs⟩ (plainGs_any ha hva) cs
  refine ⟨_, w', fr, ⟨u, ρ, rfl, Ext.refl _, ?_, hR.frame hB, ⟨hB.os, hB.tape, hB.output, hB.size, fun k hk => hB.block k (hR.size k hk)⟩⟩, h2⟩
  rcases hp with hp | ⟨l, rfl, hl'⟩
  · exact plainA_any hp hu
  · obtain ⟨vs, e, hv⟩ := hu
    exact ⟨vs, e, plains_any (plains_all hl') hv⟩

/-- A contract by values, with structs among them, is a row. -/
theorem PRow.ofV {V : World → Prop} {P : Program} {gl : List Gv} (hl : GlOK gl) (hb : bareMs gl = true) (hs : hasG gl (stOf gl) = true) {σ : Nat → Value} {m : Int} (hm : σ kM = .int .i64 m) {f : FuncId} {args : List AV} {a : AV}
    (h : ∀ (w : World) (va : Array Value), VRs (fun _ => none) σ args va.toList → Vars gl w → V w → Calls P f va w (fun e w' => ∃ u, e = .returned u ∧ VR (fun _ => none) σ a u ∧ Below w.heap.size w w')) : PRow P gl σ f args a V := by
  intro w va hv ⟨ρ, hR⟩ hva
  exact h w va hva (Vars.of hl hb hR hs hm) hv.now

/-- The end of a walk: the lowest frame's function has handed back. -/
def Wins (P : Program) (f : FuncId) (cs : List Frame) (Q : Ending → World → Prop) (M : Machine) : Prop := ∃ e w' fr, Q e w' ∧ Comes P M (lone fr cs w') e ∧ fr.fn = f ∧ fr.leaving P w' e
theorem Wins.steps {P : Program} {f : FuncId} {cs : List Frame} {Q : Ending → World → Prop} {M M' : Machine} (h : Steps P M M') (k : Wins P f cs Q M') : Wins P f cs Q M := by
  obtain ⟨e, w', fr, h1, h2, h3, h4⟩ := k
  exact ⟨e, w', fr, h1, h2.of_steps h, h3, h4⟩
theorem Calls.of_wins {P : Program} {f : FuncId} {va : Array Value} {w : World} {Q : Ending → World → Prop} (h : ∀ cs, Wins P f cs Q (lone (Frame.enter P f va .normal) cs w)) : Calls P f va w Q := h
theorem Wins.mono {P : Program} {f : FuncId} {cs : List Frame} {Q Q' : Ending → World → Prop} {M : Machine} (h : ∀ e w', Q e w' → Q' e w') (k : Wins P f cs Q M) : Wins P f cs Q' M := by
  obtain ⟨e, w', fr, h1, h2, h3, h4⟩ := k
  exact ⟨e, w', fr, h _ _ h1, h2, h3, h4⟩

section
variable {E E' : Env} {b : Nat → Prop} {ρ0 : Rho} {σ σ' : Nat → Value} {cs : List Frame} {m m' : AM} {M : Machine} {w : World}

/-- It hands back a plain value. -/
theorem Live.wins (ok : EnvS E σ) (mo : MemoOK E σ) (hv : Hold E.V b w) (h : Live E b ρ0 σ cs m M w) {n : Nat} {f : FuncId} {v : AV} (hx : retIs E f v (runS E doneA n m) = true) :
    Wins E.P f cs (fun e w' => ∃ u ρ, e = .returned u ∧ VR ρ σ v u ∧ Kept b w w') M := by
  obtain ⟨fr, w', u, ρ, h1, h2, h3, h4, h5⟩ := h.ret ok mo hv hx
  exact ⟨_, w', fr, ⟨u, ρ, rfl, h5, h2⟩, h1, h3, h4⟩

/-- The run of a pattern to a loop's head, and that it stands at another pattern there. -/
def toPat (E : Env) (gl : List Gv) (xs : List (Nat × Blk)) (L n k : Nat) (fn : FuncId) (nt : Nat) (keep : List (Nat × AV)) (bs : List Blk) (θ : List (Nat × AV)) (μ : List Nat) (m : AM) : Option (List AItem) :=
  match toLoop E L n k m with
  | some m' => match genOK gl xs fn nt keep bs θ μ [] m' with
    | true => some m'.fr.todo
    | false => none
  | none => none

theorem Live.toPat {gl : List Gv} {xs : List (Nat × Blk)} {L n k : Nat} {fn : FuncId} {nt : Nat} {keep : List (Nat × AV)} {bs : List Blk} {θ : List (Nat × AV)} {μ : List Nat} {td : List AItem} (ok : EnvS E σ) (mo : MemoOK E σ) (hv : Hold E.V b w) (h : Live E b ρ0 σ cs m M w)
    (hx : Eng.toPat E gl xs L n k fn nt keep bs θ μ m = some td) (hl : GlOK gl) (hb : bareMs gl = true) (hX : okX gl xs = true) (hM : σ' kM = σ kM) (hθ : TheOK σ σ' θ) :
    ∃ M' w' b', Steps E.P M M' ∧ Kept b w w' ∧ (∀ k, b k → b' k) ∧ Live E' b' ρ0 σ' cs (patM gl xs fn nt td keep bs) M' w' := by
  unfold Eng.toPat at hx
  split at hx
  case h_2 => cases hx
  rename_i m' hm'
  split at hx
  case h_2 => cases hx
  rename_i hg
  cases hx
  obtain ⟨M', w', h1, h2, h3⟩ := h.loop ok mo hv hm'
  obtain ⟨b', h4, h5⟩ := h3.gen (E' := E') hg hl hb hX hM hθ
  exact ⟨M', w', b', h1, h2, h4, h5⟩
end
end
end Go.Eng
