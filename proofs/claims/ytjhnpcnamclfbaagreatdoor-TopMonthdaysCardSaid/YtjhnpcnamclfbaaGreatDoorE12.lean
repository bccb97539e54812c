/- The engine: an abstract machine that runs closed code of any program, and its proof: part 12 of 14. No condition. -/
import Derived.Test.YtjhnpcnamclfbaaGreatDoorE11
/-! What makes an oracle's row. No condition. -/
namespace Go.Eng
open Go.RowKit
noncomputable section

def RowOK (E : Env) (t : TypeId) (σ : Nat → Value) (r : OR) : Prop := ∀ o, oraO o = true → codeO t o = r.k → ORow E σ o r.as r.v

section
variable {E : Env} {t : TypeId} {σ : Nat → Value}

theorem aevals_one {tm : T AV} {x : Operand} {a : AV} (h : aevals tm [x] = some [a]) : aeval tm x = some a := by
  unfold aevals at h
  split at h
  · rename_i v hv
    split at h
    · cases h; exact hv
    · cases h
  · cases h
theorem aevals_cons {tm : T AV} {x : Operand} {xs : List Operand} {a : AV} {as : List AV} (h : aevals tm (x :: xs) = some (a :: as)) : aeval tm x = some a ∧ aevals tm xs = some as := by
  unfold aevals at h
  split at h
  · rename_i v hv
    split at h
    · rename_i vs hvs; cases h; exact ⟨hv, hvs⟩
    · cases h
  · cases h

theorem codeB_lt (op : BinOp) : codeB op < 17 := by cases op <;> decide
theorem codeB_inj {a b : BinOp} (h : codeB a = codeB b) : a = b := by cases a <;> cases b <;> first | rfl | (revert h; decide)

theorem codeL_cases (ts : List TypeId) : codeL t ts = 20 ∨ codeL t ts = 99 := by
  unfold codeL
  split
  · rw [bif_eq]; split <;> simp
  · simp
theorem codeC_cases (c : Call) : codeC t c = 20 ∨ codeC t c = 25 ∨ codeC t c = 99 := by
  unfold codeC
  split
  · exact (codeL_cases _).elim .inl fun h => .inr (.inr h)
  · simp
  · simp
theorem codeS_cases (a b c : Option Operand) : codeS a b c = 22 ∨ codeS a b c = 23 ∨ codeS a b c = 24 ∨ codeS a b c = 99 := by
  unfold codeS
  split <;> simp
theorem code_call {c : Call} : codeO t (.call c) = 20 ∨ codeO t (.call c) = 25 ∨ codeO t (.call c) = 99 := codeC_cases c
theorem code_index {u : TypeId} {x y : Operand} : (codeO t (.index u x y) = 21 ∧ u = t) ∨ codeO t (.index u x y) = 99 := by
  show (bif_ (Nat.beq u t) 21 99 = 21 ∧ _) ∨ bif_ (Nat.beq u t) 21 99 = 99
  rw [bif_eq]
  split
  · rename_i h; exact .inl ⟨rfl, Nat.eq_of_beq_eq_true h⟩
  · exact .inr rfl
theorem code_slice {u : TypeId} {x : Operand} {lo hi mx : Option Operand} : (codeO t (.slice u x lo hi mx) = codeS lo hi mx ∧ u = t) ∨ codeO t (.slice u x lo hi mx) = 99 := by
  show (bif_ (Nat.beq u t) (codeS lo hi mx) 99 = _ ∧ _) ∨ bif_ (Nat.beq u t) (codeS lo hi mx) 99 = 99
  rw [bif_eq]
  split
  · rename_i h; exact .inl ⟨rfl, Nat.eq_of_beq_eq_true h⟩
  · exact .inr rfl
theorem code_conv {a b : Nat} {x : Operand} : (codeO t (.convert a b x) = 1000 + (1000 * a + b) ∧ a < 1000 ∧ b < 1000) ∨ codeO t (.convert a b x) = 99 := by
  show (bif_ (Nat.blt a 1000 && Nat.blt b 1000) _ 99 = _ ∧ _) ∨ bif_ (Nat.blt a 1000 && Nat.blt b 1000) _ 99 = 99
  rw [bif_eq]
  split
  · rename_i h
    rw [Bool.and_eq_true, blt_iff, blt_iff, decide_eq_true_iff, decide_eq_true_iff] at h
    exact .inl ⟨rfl, h⟩
  · exact .inr rfl

/-- An operation of two operands. -/
theorem RowOK.bin (op : BinOp) {a b v : AV} (h : ∀ u, binA E op u (conc σ a) (conc σ b) = some (conc σ v)) : RowOK E t σ ⟨codeB op, [a, b], v⟩ := by
  intro o ho hk
  replace hk : codeO t o = codeB op := hk
  have hlt := codeB_lt op
  cases o <;> first | (cases ho; done) | (exfalso; have h99 := hk; change 99 = _ at h99; omega) | skip
  case binOp op' u x y z =>
    have : op' = op := codeB_inj hk
    subst this
    exact ORow.bin h u x y z
  case convert u d x => exfalso; rcases code_conv (t := t) (a := u) (b := d) (x := x) with h | h <;> omega
  case slice u x lo hi mx => exfalso; have h1 := codeS_cases lo hi mx; rcases code_slice (t := t) (u := u) (x := x) (lo := lo) (hi := hi) (mx := mx) with h | h <;> omega
  case index u x i => exfalso; rcases code_index (t := t) (u := u) (x := x) (y := i) with h | h <;> omega
  case call c => exfalso; rcases code_call (t := t) (c := c) with h | h | h <;> omega

theorem conc_str_row {op : BinOp} {a b v : AV} {x y : List Nat} (ha : conc σ a = .str x) (hb : conc σ b = .str y) (h : strBinA op x y = some (conc σ v)) : RowOK E t σ ⟨codeB op, [a, b], v⟩ := by
  refine RowOK.bin op fun u => ?_
  rw [ha, hb]
  exact h
theorem conc_int_row {op : BinOp} {k : IntKind} {a b v : AV} {x y : Int} (ha : conc σ a = .int k x) (hb : conc σ b = .int k y) (hs : op ≠ .shl ∧ op ≠ .shr) (h : intBinA op k x y = some (conc σ v)) : RowOK E t σ ⟨codeB op, [a, b], v⟩ := by
  refine RowOK.bin op fun u => ?_
  rw [ha, hb, ← h]
  obtain ⟨h1, h2⟩ := hs
  cases op <;> first | exact absurd rfl h1 | exact absurd rfl h2 | (show (match eqK k k with | true => _ | false => _) = _; rw [eqK_refl])

/-- The length of a string. -/
theorem RowOK.len {a : AV} {x : List Nat} {v : AV} (ht : und E t = some .string) (ha : conc σ a = .str x) (hv : conc σ v = .int .i64 (Int.ofNat x.length)) : RowOK E t σ ⟨20, [a], v⟩ := by
  intro o ho hk
  replace hk : codeO t o = 20 := hk
  cases o <;> first | (cases ho; done) | (exfalso; have h99 := hk; change 99 = _ at h99; omega) | skip
  case binOp op u x y z => exfalso; have h1 := codeB_lt op; have h2 : codeO t (.binOp op u x y z) = codeB op := rfl; omega
  case convert u d x => exfalso; rcases code_conv (t := t) (a := u) (b := d) (x := x) with h | h <;> omega
  case slice u x lo hi mx => exfalso; have h1 := codeS_cases lo hi mx; rcases code_slice (t := t) (u := u) (x := x) (lo := lo) (hi := hi) (mx := mx) with h | h <;> omega
  case index u x i => exfalso; rcases code_index (t := t) (u := u) (x := x) (y := i) with h | h <;> omega
  case call c =>
    replace hk : codeC t c = 20 := hk
    unfold codeC at hk
    split at hk
    case h_2 => exfalso; omega
    case h_3 => exfalso; omega
    rename_i hc
    have hcl : ∃ u, c.argTypes.toList = [u] ∧ u = t := by
      unfold codeL at hk
      split at hk
      case h_2 => exfalso; omega
      rename_i u hu
      rw [bif_eq] at hk
      split at hk
      case isFalse => exfalso; omega
      rename_i hb
      exact ⟨u, hu, Nat.eq_of_beq_eq_true hb⟩
    obtain ⟨u, hu, rfl⟩ := hcl
    intro tm s hop
    have hop : aevals tm c.operands.toList = some [conc σ a] := hop
    have he : c.operands.toList = c.args.toList := by unfold Call.operands; rw [hc]; simp
    rw [he] at hop
    show opCallA E tm s c = some (.val (conc σ v) s)
    unfold opCallA
    rw [aevalsF_eq, hop, hc, hu, ha]
    show val1 s (lenA E s u (.str x)) = _
    unfold lenA
    rw [ht, hv, ← len_eq]
    rfl

/-- The lesser one. -/
theorem RowOK.min {a b : AV} {k : IntKind} {x y z : Int} {v : AV} (ha : conc σ a = .int k x) (hb : conc σ b = .int k y) (hv : conc σ v = .int k z) (hz : z = if y < x then y else x) : RowOK E t σ ⟨25, [a, b], v⟩ := by
  intro o ho hk
  replace hk : codeO t o = 25 := hk
  cases o <;> first | (cases ho; done) | (exfalso; have h99 := hk; change 99 = _ at h99; omega) | skip
  case binOp op u x y z => exfalso; have h1 := codeB_lt op; have h2 : codeO t (.binOp op u x y z) = codeB op := rfl; omega
  case convert u d x => exfalso; rcases code_conv (t := t) (a := u) (b := d) (x := x) with h | h <;> omega
  case slice u x lo hi mx => exfalso; have h1 := codeS_cases lo hi mx; rcases code_slice (t := t) (u := u) (x := x) (lo := lo) (hi := hi) (mx := mx) with h | h <;> omega
  case index u x i => exfalso; rcases code_index (t := t) (u := u) (x := x) (y := i) with h | h <;> omega
  case call c =>
    replace hk : codeC t c = 25 := hk
    unfold codeC at hk
    split at hk
    case h_1 => exfalso; rcases codeL_cases (t := t) c.argTypes.toList with h | h <;> omega
    case h_3 => exfalso; omega
    rename_i hc
    intro tm s hop
    have hop : aevals tm c.operands.toList = some [conc σ a, conc σ b] := hop
    have he : c.operands.toList = c.args.toList := by unfold Call.operands; rw [hc]; simp
    rw [he] at hop
    show opCallA E tm s c = some (.val (conc σ v) s)
    unfold opCallA
    rw [aevalsF_eq, hop, hc, ha, hb, hv]
    show val1 s (foldInt minI k x [.int k y]) = _
    have : foldInt minI k x [.int k y] = some (.int k (minI x y)) := rfl
    rw [this, minI_eq, ← hz]; rfl

/-- A byte of a string. -/
theorem RowOK.idx {a b : AV} {x : List Nat} {k : IntKind} {n c : Nat} {v : AV} (ht : und E t = some .string) (ha : conc σ a = .str x) (hb : conc σ b = .int k (Int.ofNat n)) (hn : x[n]? = some c) (hv : conc σ v = .int .u8 (Int.ofNat c)) : RowOK E t σ ⟨21, [a, b], v⟩ := by
  intro o ho hk
  replace hk : codeO t o = 21 := hk
  cases o <;> first | (cases ho; done) | (exfalso; have h99 := hk; change 99 = _ at h99; omega) | skip
  case binOp op u x y z => exfalso; have h1 := codeB_lt op; have h2 : codeO t (.binOp op u x y z) = codeB op := rfl; omega
  case convert u d x => exfalso; rcases code_conv (t := t) (a := u) (b := d) (x := x) with h | h <;> omega
  case slice u x lo hi mx => exfalso; have h1 := codeS_cases lo hi mx; rcases code_slice (t := t) (u := u) (x := x) (lo := lo) (hi := hi) (mx := mx) with h | h <;> omega
  case index u y i =>
    have hu : u = t := by rcases code_index (t := t) (u := u) (x := y) (y := i) with h | h; exact h.2; omega
    subst hu
    intro tm s hop
    have hop : aevals tm [y, i] = some [conc σ a, conc σ b] := hop
    obtain ⟨h1, h2⟩ := aevals_cons hop
    have h2 := aevals_one h2
    show oIndex E tm s u y i = some (.val (conc σ v) s)
    unfold oIndex
    rw [h1, h2, ha, hb]
    show val1 s (indexA E u (.str x) (.int k (Int.ofNat n))) = _
    unfold indexA
    rw [ht, hv]
    show val1 s (match nth x n with | some c => some (.int .u8 (Int.ofNat c)) | none => none) = _
    rw [nth_eq, hn]
    rfl
  case call c => exfalso; rcases code_call (t := t) (c := c) with h | h | h <;> omega

theorem sub_some {α : Type} : ∀ (l : List α) {o n : Nat}, o + n ≤ l.length → sub l o n = some ((l.drop o).take n) := by
  have tk : ∀ (n : Nat) (l : List α), n ≤ l.length → takeN n l = some (l.take n) := by
    intro n
    induction n with
    | zero => intro l _; rfl
    | succ n ih =>
      intro l h
      cases l with
      | nil => simp at h
      | cons a l =>
        show Option.rec (motive := fun _ => Option (List α)) none (fun x => some (a :: x)) (takeN n l) = _
        rw [ih l (by simpa using h)]
        rfl
  have dr : ∀ (n : Nat) (l : List α), n ≤ l.length → dropN n l = some (l.drop n) := by
    intro n
    induction n with
    | zero => intro l _; rfl
    | succ n ih =>
      intro l h
      cases l with
      | nil => simp at h
      | cons a l => exact ih l (by simpa using h)
  intro l o n h
  unfold sub
  rw [dr o l (by omega)]
  exact tk n _ (by rw [List.length_drop]; omega)

/-- A part of a string. -/
theorem RowOK.part {k : Nat} {as : List AV} {a : AV} {x : List Nat} {lo hi : Nat} {v : AV} (ht : und E t = some .string) (ha : conc σ a = .str x) (hlo : lo ≤ hi) (hhi : hi ≤ x.length) (hv : conc σ v = .str ((x.drop lo).take (hi - lo)))
    (hk : (k = 22 ∧ ∃ b c kb kc, as = [a, b, c] ∧ conc σ b = .int kb (Int.ofNat lo) ∧ conc σ c = .int kc (Int.ofNat hi)) ∨ (k = 23 ∧ hi = x.length ∧ ∃ b kb, as = [a, b] ∧ conc σ b = .int kb (Int.ofNat lo)) ∨ (k = 24 ∧ lo = 0 ∧ ∃ c kc, as = [a, c] ∧ conc σ c = .int kc (Int.ofNat hi))) :
    RowOK E t σ ⟨k, as, v⟩ := by
  intro o ho hko
  replace hko : codeO t o = k := hko
  have hk3 : k = 22 ∨ k = 23 ∨ k = 24 := by rcases hk with h | h | h <;> simp [h.1]
  cases o <;> first | (cases ho; done) | (exfalso; have h99 := hko; change 99 = _ at h99; omega) | skip
  case binOp op u x y z => exfalso; have h1 := codeB_lt op; have h2 : codeO t (.binOp op u x y z) = codeB op := rfl; omega
  case convert u d x => exfalso; rcases code_conv (t := t) (a := u) (b := d) (x := x) with h | h <;> omega
  case index u x i => exfalso; rcases code_index (t := t) (u := u) (x := x) (y := i) with h | h <;> omega
  case call c => exfalso; rcases code_call (t := t) (c := c) with h | h | h <;> omega
  case slice u y lo' hi' mx =>
    have hu : u = t ∧ codeS lo' hi' mx = k := by
      rcases code_slice (t := t) (u := u) (x := y) (lo := lo') (hi := hi') (mx := mx) with h | h
      · exact ⟨h.2, by omega⟩
      · omega
    clear hko
    obtain ⟨rfl, hko⟩ := hu
    intro tm s hop
    show oSlice E tm s u y lo' hi' mx = some (.val (conc σ v) s)
    have fin : ∀ (l h : Option Operand), optOf tm 0 l = some lo → optOf tm (Eng.len x) h = some hi → aeval tm y = some (.str x) → oSlice E tm s u y l h none = some (.val (conc σ v) s) := by
      intro l h h1 h2 h3
      unfold oSlice
      simp only [h3]
      unfold sliceA
      have hb : Nat.ble lo hi = true := Nat.ble_eq_true_of_le hlo
      simp only [h1, ht, h2, hb]
      show val1 s (match sub x lo (hi - lo) with | some r => some (.str r) | none => none) = _
      rw [sub_some x (by omega), hv]
      rfl
    unfold codeS at hko
    split at hko
    · rename_i l h
      rcases hk with ⟨_, b, c, kb, kc, rfl, hb, hc⟩ | h | h
      · have hop : aevals tm [y, l, h] = some [conc σ a, conc σ b, conc σ c] := hop
        obtain ⟨h1, h2⟩ := aevals_cons hop
        obtain ⟨h2, h3⟩ := aevals_cons h2
        have h3 := aevals_one h3
        exact fin _ _ (by unfold optOf; simp only [h2, hb]; rfl) (by unfold optOf; simp only [h3, hc]; rfl) (by rw [h1, ha])
      · exfalso; omega
      · exfalso; omega
    · rename_i l
      rcases hk with h | ⟨_, hx, b, kb, rfl, hb⟩ | h
      · exfalso; omega
      · have hop : aevals tm [y, l] = some [conc σ a, conc σ b] := hop
        obtain ⟨h1, h2⟩ := aevals_cons hop
        have h2 := aevals_one h2
        exact fin _ _ (by unfold optOf; simp only [h2, hb]; rfl) (by unfold optOf; simp only [len_eq, hx]) (by rw [h1, ha])
      · exfalso; omega
    · rename_i h
      rcases hk with h | h | ⟨_, hl, c, kc, rfl, hc⟩
      · exfalso; omega
      · exfalso; omega
      · have hop : aevals tm [y, h] = some [conc σ a, conc σ c] := hop
        obtain ⟨h1, h2⟩ := aevals_cons hop
        have h2 := aevals_one h2
        exact fin _ _ (by unfold optOf; simp only [hl]) (by unfold optOf; simp only [h2, hc]; rfl) (by rw [h1, ha])
    · exfalso; omega

/-- A number turned to another kind. -/
theorem RowOK.conv {u d : Nat} {a v : AV} {k k' : IntKind} {n : Int} (hu : und E u = some (.int k)) (hd : und E d = some (.int k')) (ha : conc σ a = .int k n) (hv : conc σ v = .int k' (k'.wrap n)) (hlt : d < 1000) : RowOK E t σ ⟨1000 + (1000 * u + d), [a], v⟩ := by
  intro o ho hk
  replace hk : codeO t o = 1000 + (1000 * u + d) := hk
  cases o <;> first | (cases ho; done) | (exfalso; have h99 := hk; change 99 = _ at h99; omega) | skip
  case binOp op u x y z => exfalso; have h1 := codeB_lt op; have h2 : codeO t (.binOp op u x y z) = codeB op := rfl; omega
  case slice u x lo hi mx => exfalso; have h1 := codeS_cases lo hi mx; rcases code_slice (t := t) (u := u) (x := x) (lo := lo) (hi := hi) (mx := mx) with h | h <;> omega
  case index u x i => exfalso; rcases code_index (t := t) (u := u) (x := x) (y := i) with h | h <;> omega
  case call c => exfalso; rcases code_call (t := t) (c := c) with h | h | h <;> omega
  case convert u' d' x =>
    have u1 : ∃ z : Nat, z = u' := ⟨u', rfl⟩
    have d1 : ∃ z : Nat, z = d' := ⟨d', rfl⟩
    obtain ⟨u1, rfl⟩ := u1
    obtain ⟨d1, rfl⟩ := d1
    have hud : u1 = u ∧ d1 = d := by
      have hk2 : codeO t (.convert u1 d1 x) = 1000 + (1000 * u + d) := hk
      rcases code_conv (t := t) (a := u1) (b := d1) (x := x) with ⟨h, h1, h2⟩ | h
      · have h3 : 1000 * u1 + d1 = 1000 * u + d := by rw [h] at hk2; exact Nat.add_left_cancel hk2
        have h4 : u1 = u := by omega
        subst h4
        exact ⟨rfl, by omega⟩
      · rw [h] at hk2; omega
    obtain ⟨rfl, rfl⟩ := hud
    intro tm s hop
    have hop : aevals tm [x] = some [conc σ a] := hop
    have h1 := aevals_one hop
    show oConv E tm s u1 d1 x = some (.val (conc σ v) s)
    unfold oConv
    rw [h1, ha]
    show convertA E s u1 d1 (.int k n) = _
    unfold convertA
    rw [hu, hd, hv, ← fastWrap_eq]
    rfl
end
end
end Go.Eng

/-! Contracts by values under the variables, and scripts: a closed run under rows makes a contract. No condition. -/
namespace Go.Eng
open Go.RowKit
noncomputable section

/-- The one symbol that the variables' cells may bear. -/
def kM : Nat := 900
def bareM : AV → Bool
  | .sym i => Nat.beq i kM
  | a => lowA a
def bareMs (gl : List Gv) : Bool := gl.all fun x => x.cs.all bareM

theorem bareM_any {ρ : Rho} {σ σ' : Nat → Value} (e : σ' kM = σ kM) : ∀ {a : AV}, bareM a = true → ∀ {v : Value}, VR ρ σ a v → VR ρ σ' a v
  | .ptr _ _, _, _, h => h
  | .slice _ _ _ _ _, _, _, h => h
  | .bool _, _, _, h => h
  | .int _ _, _, _, h => h
  | .str _, _, _, h => h
  | .nilptr, _, _, h => h
  | .nilslice, _, _, h => h
  | .nilmap, _, _, h => h
  | .nilFunc, _, _, h => h
  | .nilIface, _, _, h => h
  | .unk, _, _, h => h
  | .sym _, hb, _, ⟨h1, h2⟩ => by
    have := Nat.eq_of_beq_eq_true hb
    subst this
    exact ⟨h1.trans e.symm, h2⟩
  | .map _, h, _, _ => Bool.noConfusion h
  | .func _ _ _, h, _, _ => Bool.noConfusion h
  | .yield _, h, _, _ => Bool.noConfusion h
  | .iface _ _, h, _, _ => Bool.noConfusion h
  | .agg _, h, _, _ => Bool.noConfusion h
  | .tuple _, h, _, _ => Bool.noConfusion h
  | .any, h, _, _ => Bool.noConfusion h
theorem bareMs_any {ρ : Rho} {σ σ' : Nat → Value} (e : σ' kM = σ kM) : ∀ {l : List AV} {vs : List Value}, l.all bareM = true → VRs ρ σ l vs → VRs ρ σ' l vs
  | [], _, _, h => h
  | a :: l, _, hp, ⟨v, r, he, h, hl⟩ => by
    simp only [List.all_cons, Bool.and_eq_true] at hp
    exact ⟨v, r, he, bareM_any e hp.1 h, bareMs_any e hp.2 hl⟩
theorem R.resigM {B : Base} {ρ : Rho} {σ σ' : Nat → Value} {w : World} {gl : List Gv} (hl : GlOK gl) (hb : bareMs gl = true) (e : σ' kM = σ kM) (h : R B ρ σ (stOf gl) w) : R B ρ σ' (stOf gl) w := by
  refine ⟨h.fresh, h.base, h.most, fun i b hi => ?_, h.virt, h.inj, h.own, h.glob, h.vars, h.size, h.nd⟩
  obtain ⟨x, hx, rfl, rfl⟩ := stOf_get gl hl.small i b hi
  rcases h.live _ _ hi with hv | ⟨L, ob, hL, hob, c, t, fr, e', ht, z, hv, r⟩
  · exact .inl hv
  · exact .inr ⟨L, ob, hL, hob, c, t, fr, e', ht, z, bareMs_any e (List.all_eq_true.1 hb x hx) hv, r⟩

/-- The variables lie there. -/
def Vars (gl : List Gv) (w : World) : Prop := ∃ m : Int, ∀ σ : Nat → Value, σ kM = .int .i64 m → ∃ ρ, R (.at w.heap.size) ρ σ (stOf gl) w
theorem Vars.of {gl : List Gv} (hl : GlOK gl) (hb : bareMs gl = true) {B : Base} {ρ : Rho} {σ : Nat → Value} {s : St} {w : World} (h : R B ρ σ s w) (hs : hasG gl s = true) {m : Int} (hm : σ kM = .int .i64 m) : Vars gl w :=
  ⟨m, fun _ hσ => ⟨_, (h.start hl hs).resigM hl hb (hσ.trans hm.symm)⟩⟩

/-- Under the variables a call with these values hands this value back, and all that was there stays. -/
def CallsV (P : Program) (gl : List Gv) (f : FuncId) (va : Array Value) (u : Value) (V : World → Prop := fun _ => True) : Prop :=
  ∀ w : World, Vars gl w → V w → Calls P f va w (fun e w' => e = .returned u ∧ Below w.heap.size w w')

theorem CallsV.more {P : Program} {gl : List Gv} {f : FuncId} {va : Array Value} {u : Value} {V V' : World → Prop} (h : CallsV P gl f va u V) (i : ∀ w, V' w → V w) : CallsV P gl f va u V' := fun w hw hv => h w hw (i w hv)

/-- A symbol's value, and the length bound's. -/
def withM (σ : Nat → Value) (m : Int) (i : Nat) : Value := Bool.rec (motive := fun _ => Value) (σ i) (.int .i64 m) (Nat.beq i kM)
theorem withM_kM (σ : Nat → Value) (m : Int) : withM σ m kM = .int .i64 m := rfl

theorem KRow.ofV {V : World → Prop} {P : Program} {gl : List Gv} (hl : GlOK gl) (hb : bareMs gl = true) {σ : Nat → Value} {m : Int} (hm : σ kM = .int .i64 m) {f : FuncId} {args : List AV} {a : AV} {va : Array Value} {u : Value} (ht : args.all tells = true)
    (ha : VRs (fun _ => none) σ args va.toList) (hv : plainA a = true ∨ (∃ l, a = .tuple l ∧ l.all plainA = true)) (hu : VR (fun _ => none) σ a u) (h : CallsV P gl f va u V) : KRow P gl σ f args ⟨a, []⟩ V := by
  intro B ρ s w va' hv0 hR hs hva v s' hpl cs
  obtain ⟨rfl, rfl⟩ := place_nil hv hpl
  have e : va' = va := Array.ext' (tells_funs ht hva ha)
  subst e
  obtain ⟨e, w', fr, ⟨rfl, hB⟩, h2⟩ := h w (Vars.of hl hb hR hs hm) hv0.now cs
  refine ⟨_, w', fr, ⟨u, ρ, rfl, Ext.refl _, ?_, hR.frame hB, ⟨hB.os, hB.tape, hB.output, hB.size, fun k hk => hB.block k (hR.size k hk)⟩⟩, h2⟩
  rcases hv with hv | ⟨l, rfl, hl'⟩
  · exact plainA_any hv hu
  · obtain ⟨vs, e, hv⟩ := hu
    exact ⟨vs, e, plains_any (plains_all hl') hv⟩

/-! ### Rows, found quicker -/
def hashA : AV → Nat
  | .sym i => Nat.succ (Nat.mul 8 i)
  | .int _ n => Nat.add 2 (Nat.mul 8 (Int.rec (motive := fun _ => Nat) (fun n => Nat.mul 2 n) (fun n => Nat.succ (Nat.mul 2 n)) n))
  | .str l => Nat.add 3 (Nat.mul 8 (hashL l))
  | .bool b => Bool.rec (motive := fun _ => Nat) 4 12 b
  | _ => 5
def hashAs (l : List AV) : Nat := List.rec (motive := fun _ => Nat) 7 (fun a _ ih => Nat.add (hashA a) (Nat.mul 1000003 ih)) l
def findOH (k : Nat) (as : List AV) (l : List OR) : Option AV :=
  List.rec (motive := fun _ => Option AV) none
    (fun r _ ih => Bool.rec (motive := fun _ => Option AV) ih (Bool.rec (motive := fun _ => Option AV) ih (Bool.rec (motive := fun _ => Option AV) ih (some r.v) (avEqs as r.as)) (Nat.beq (hashAs as) (hashAs r.as))) (Nat.beq k r.k)) l
def findKH (f : FuncId) (args : List AV) (l : List KR) : Option Img :=
  List.rec (motive := fun _ => Option Img) none
    (fun r _ ih => Bool.rec (motive := fun _ => Option Img) ih (Bool.rec (motive := fun _ => Option Img) ih (Bool.rec (motive := fun _ => Option Img) ih (some r.img) (avEqs args r.args)) (Nat.beq (hashAs args) (hashAs r.args))) (Nat.beq f r.f)) l
theorem findOH_eq (k : Nat) (as : List AV) : ∀ l : List OR, findOH k as l = findO k as l
  | [] => rfl
  | r :: l => by
    have ih := findOH_eq k as l
    show Bool.rec (motive := fun _ => Option AV) (findOH k as l) (Bool.rec (motive := fun _ => Option AV) (findOH k as l) (Bool.rec (motive := fun _ => Option AV) (findOH k as l) (some r.v) (avEqs as r.as)) (Nat.beq (hashAs as) (hashAs r.as))) (Nat.beq k r.k) = _
    unfold findO
    rw [ih]
    cases Nat.beq k r.k with
    | false => rfl
    | true =>
      cases ha : avEqs as r.as with
      | false => cases Nat.beq (hashAs as) (hashAs r.as) <;> rfl
      | true => rw [avEqs_eq _ _ ha, Nat.beq_refl]; rfl
theorem findKH_eq (f : FuncId) (args : List AV) : ∀ l : List KR, findKH f args l = findK f args l
  | [] => rfl
  | r :: l => by
    have ih := findKH_eq f args l
    show Bool.rec (motive := fun _ => Option Img) (findKH f args l) (Bool.rec (motive := fun _ => Option Img) (findKH f args l) (Bool.rec (motive := fun _ => Option Img) (findKH f args l) (some r.img) (avEqs args r.args)) (Nat.beq (hashAs args) (hashAs r.args))) (Nat.beq f r.f) = _
    unfold findK
    rw [ih]
    cases Nat.beq f r.f with
    | false => rfl
    | true =>
      cases ha : avEqs args r.args with
      | false => cases Nat.beq (hashAs args) (hashAs r.args) <;> rfl
      | true => rw [avEqs_eq _ _ ha, Nat.beq_refl]; rfl
def memoKH (gl : List Gv) (rows : List KR) (f : FuncId) (args : List AV) (s : St) : Option (AV × St) :=
  match findKH f args rows with
  | some i => match hasG gl s with
    | true => place i s
    | false => none
  | none => none
theorem memoKH_eq (gl : List Gv) (rows : List KR) : memoKH gl rows = memoK gl rows := by
  funext f args s
  unfold memoKH memoK
  rw [findKH_eq]
  first | done | rfl
def Env.askH (E : Env) (t : TypeId) (rows : List OR) (m : FuncId → List AV → St → Option (AV × St)) : Env := { E with memo := m, on := true, ora := fun o as => findOH (codeO t o) as rows }
theorem Env.askH_eq (E : Env) (t : TypeId) (rows : List OR) (m : FuncId → List AV → St → Option (AV × St)) : E.askH t rows m = E.ask t rows m := by
  unfold Env.askH Env.ask
  congr 1
  funext o as
  exact findOH_eq _ _ _
theorem rowRun_H {E : Env} {t : TypeId} {gl : List Gv} {orows : List OR} {krows : List KR} {f : FuncId} {args : List AV} {n : Nat} {v : AV} (h : rowRun (E.askH t orows (memoKH gl krows)) gl f args n v = true) : rowRun (E.ask t orows (memoK gl krows)) gl f args n v = true := by
  rwa [Env.askH_eq, memoKH_eq] at h

/-- A closed run under rows is a contract. -/
theorem CallsV.script {E : Env} {gl : List Gv} (ok : EnvOK E) (tS : TypeId) {σ : Nat → Value} {f : FuncId} {args : List AV} {n : Nat} {v : AV} {va : Array Value} {u : Value} {orows : List OR} {krows : List KR}
    (ho : ∀ m, ∀ r ∈ orows, RowOK (E.ask tS orows (memoK gl krows)) tS (withM σ m) r) (hk : ∀ m, ∀ r ∈ krows, KRow E.P gl (withM σ m) r.f r.args r.img E.V)
    (run : rowRun (E.ask tS orows (memoK gl krows)) gl f args n v = true) (ha : ∀ m, VRs (fun _ => none) (withM σ m) args va.toList) (hu : ∀ m, VR (fun _ => none) (withM σ m) v u) (ht : tellsV v = true)
    (hV : ∀ w, E.V w → Hold E.V (fun k => k < w.heap.size) w := by exact fun _ _ => Hold.all (fun _ => True.intro) _ _) : CallsV E.P gl f va u E.V := by
  intro w ⟨m, hm⟩ hw
  obtain ⟨ρ, hR⟩ := hm (withM σ m) (withM_kM σ m)
  have row : PRow E.P gl (withM σ m) f args v E.V := PRow.of (E := E.ask tS orows (memoK gl krows)) (EnvS.ask ok (ho m)) (MemoOK.ofK (E := E.ask tS orows (memoK gl krows)) (hk m)) run
  exact (row w va (hV w hw) ⟨ρ, hR⟩ (ha m)).mono fun e w' ⟨u', h1, h2, h3⟩ => ⟨by rw [h1, tellsV_fun ht h2 (hu m)], h3⟩

/-! ### Rows of numbers -/
section
variable {E : Env} {t : TypeId} {σ : Nat → Value} {a b v : AV} {x y z : Int}
theorem wrap64_id (h0 : -9223372036854775808 ≤ z) (h1 : z < 9223372036854775808) : IntKind.wrap .i64 z = z := by
  have e1 : (2 : Int) ^ 64 = 18446744073709551616 := by decide
  have e2 : (2 : Int) ^ (64 - 1) = 9223372036854775808 := by decide
  unfold IntKind.wrap
  simp only [IntKind.bits, IntKind.signed, e1, e2, Bool.true_and, decide_eq_true_eq, ge_iff_le]
  split <;> omega
theorem RowOK.add64 (ha : conc σ a = .int .i64 x) (hb : conc σ b = .int .i64 y) (hv : conc σ v = .int .i64 z) (h : x + y = z) (h0 : -9223372036854775808 ≤ z) (h1 : z < 9223372036854775808) : RowOK E t σ ⟨0, [a, b], v⟩ :=
  conc_int_row (op := .add) ha hb ⟨by decide, by decide⟩ (by show some (AV.int .i64 (fastWrap .i64 (x + y))) = _; rw [fastWrap_eq, h, wrap64_id h0 h1, hv])
theorem RowOK.sub64 (ha : conc σ a = .int .i64 x) (hb : conc σ b = .int .i64 y) (hv : conc σ v = .int .i64 z) (h : x - y = z) (h0 : -9223372036854775808 ≤ z) (h1 : z < 9223372036854775808) : RowOK E t σ ⟨1, [a, b], v⟩ :=
  conc_int_row (op := .sub) ha hb ⟨by decide, by decide⟩ (by show some (AV.int .i64 (fastWrap .i64 (x - y))) = _; rw [fastWrap_eq, h, wrap64_id h0 h1, hv])
theorem RowOK.mul64 (ha : conc σ a = .int .i64 x) (hb : conc σ b = .int .i64 y) (hv : conc σ v = .int .i64 z) (h : x * y = z) (h0 : -9223372036854775808 ≤ z) (h1 : z < 9223372036854775808) : RowOK E t σ ⟨2, [a, b], v⟩ :=
  conc_int_row (op := .mul) ha hb ⟨by decide, by decide⟩ (by show some (AV.int .i64 (fastWrap .i64 (x * y))) = _; rw [fastWrap_eq, h, wrap64_id h0 h1, hv])
theorem RowOK.quo64 (ha : conc σ a = .int .i64 x) (hb : conc σ b = .int .i64 y) (hv : conc σ v = .int .i64 z) (hy : y ≠ 0) (h : x.tdiv y = z) (h0 : -9223372036854775808 ≤ z) (h1 : z < 9223372036854775808) : RowOK E t σ ⟨3, [a, b], v⟩ :=
  conc_int_row (op := .quo) ha hb ⟨by decide, by decide⟩ (by
    show (match isZeroInt y with | true => none | false => some (AV.int .i64 (fastWrap .i64 (x.tdiv y)))) = _
    rw [isZeroInt_eq, show (decide (y = 0)) = false from decide_eq_false hy]
    simp only
    rw [fastWrap_eq, h, wrap64_id h0 h1, hv])
theorem RowOK.rem (k : IntKind) (ha : conc σ a = .int k x) (hb : conc σ b = .int k y) (hv : conc σ v = .int k z) (hy : y ≠ 0) (h : x.tmod y = z) : RowOK E t σ ⟨4, [a, b], v⟩ :=
  conc_int_row (op := .rem) ha hb ⟨by decide, by decide⟩ (by
    show (match isZeroInt y with | true => none | false => some (AV.int k (x.tmod y))) = _
    rw [isZeroInt_eq, show (decide (y = 0)) = false from decide_eq_false hy]
    simp only
    rw [h, hv])
theorem RowOK.cmp (k : IntKind) {c : Nat} {r : Bool} (ha : conc σ a = .int k x) (hb : conc σ b = .int k y)
    (h : (c = 11 ∧ r = decide (x = y)) ∨ (c = 12 ∧ r = !decide (x = y)) ∨ (c = 13 ∧ r = decide (x < y)) ∨ (c = 14 ∧ r = decide (x ≤ y)) ∨ (c = 15 ∧ r = decide (y < x)) ∨ (c = 16 ∧ r = decide (y ≤ x))) : RowOK E t σ ⟨c, [a, b], .bool r⟩ := by
  rcases h with ⟨rfl, rfl⟩ | ⟨rfl, rfl⟩ | ⟨rfl, rfl⟩ | ⟨rfl, rfl⟩ | ⟨rfl, rfl⟩ | ⟨rfl, rfl⟩
  · exact conc_int_row (op := .eql) ha hb ⟨by decide, by decide⟩ (by show some (AV.bool (eqInt x y)) = _; rw [eqInt_eq]; rfl)
  · exact conc_int_row (op := .neq) ha hb ⟨by decide, by decide⟩ (by show some (AV.bool (!eqInt x y)) = _; rw [eqInt_eq]; rfl)
  · exact conc_int_row (op := .lss) ha hb ⟨by decide, by decide⟩ (by show some (AV.bool (ltInt x y)) = _; rw [ltInt_eq]; rfl)
  · exact conc_int_row (op := .leq) ha hb ⟨by decide, by decide⟩ (by show some (AV.bool (!ltInt y x)) = _; rw [ltInt_eq, ← decide_not]; congr 2; rw [Bool.eq_iff_iff]; simp)
  · exact conc_int_row (op := .gtr) ha hb ⟨by decide, by decide⟩ (by show some (AV.bool (ltInt y x)) = _; rw [ltInt_eq]; rfl)
  · exact conc_int_row (op := .geq) ha hb ⟨by decide, by decide⟩ (by show some (AV.bool (!ltInt x y)) = _; rw [ltInt_eq, ← decide_not]; congr 2; rw [Bool.eq_iff_iff]; simp)
/-- Two strings. -/
theorem RowOK.seq {c : Nat} {r : Bool} {p q : List Nat} (ha : conc σ a = .str p) (hb : conc σ b = .str q) (h : (c = 11 ∧ r = decide (p = q)) ∨ (c = 12 ∧ r = !decide (p = q))) : RowOK E t σ ⟨c, [a, b], .bool r⟩ := by
  rcases h with ⟨rfl, rfl⟩ | ⟨rfl, rfl⟩
  · exact conc_str_row (op := .eql) ha hb (by show some (AV.bool (eqNats p q)) = some (.bool (decide (p = q))); rw [eqNats_eq]; congr 2; rw [Bool.eq_iff_iff]; simp)
  · exact conc_str_row (op := .neq) ha hb (by show some (AV.bool (!eqNats p q)) = some (.bool (!decide (p = q))); rw [eqNats_eq]; congr 3; rw [Bool.eq_iff_iff]; simp)
theorem RowOK.cat {p q r : List Nat} (ha : conc σ a = .str p) (hb : conc σ b = .str q) (hv : conc σ v = .str r) (h : p ++ q = r) (hl : r.length < 9223372036854775808) : RowOK E t σ ⟨0, [a, b], v⟩ := by
  refine conc_str_row (op := .add) ha hb ?_
  have hb : Nat.ble (Eng.len p + Eng.len q) maxStr = true := by
    apply Nat.ble_eq_true_of_le
    rw [len_eq, len_eq, ← List.length_append, h]
    unfold maxStr
    omega
  show (match Nat.ble (Eng.len p + Eng.len q) maxStr with | true => some (AV.str (p ++ q)) | false => none) = _
  rw [hb, h, hv]
end
end
end Go.Eng

/-! A known call that reads a slice of strings and joins them. No condition. -/
namespace Go.Eng
open Go.RowKit
noncomputable section

structure JR where
  cs : List AV
  v : AV
end
end Go.Eng

/-! Known calls with structs among their arguments. No condition. -/
namespace Go.Eng
open Go.RowKit
noncomputable section

def plainG (a : AV) : Bool := plainA a || (match a with | .tuple l => l.all plainA | .agg l => l.all plainA | _ => false)
theorem plainGs_any {ρ ρ' : Rho} {σ : Nat → Value} : ∀ {l : List AV} {vs : List Value}, l.all plainG = true → VRs ρ σ l vs → VRs ρ' σ l vs
  | [], _, _, h => h
  | a :: l, _, hp, ⟨v, r, he, h, hl⟩ => by
    simp only [List.all_cons, Bool.and_eq_true] at hp
    exact ⟨v, r, he, plainV_any hp.1 h, plainGs_any hp.2 hl⟩
/-- The engine's run of a call with these arguments. -/
def rowRunG (E : Env) (gl : List Gv) (f : FuncId) (args : List AV) (n : Nat) (v : AV) : Bool :=
  match callN E (stOf gl) f args n with
  | some (x, _) => args.all plainG && plainG v && avEq x v
  | none => false
theorem PRow.ofGr {E : Env} {σ : Nat → Value} (ok : EnvS E σ) (mo : MemoOK E σ) {gl : List Gv} {f : FuncId} {args : List AV} {n : Nat} {v : AV} (h : rowRunG E gl f args n v = true) : PRow E.P gl σ f args v E.V := by
  intro w va hv0 ⟨ρ, hR⟩ ha
  unfold rowRunG at h
  split at h
  case h_2 => cases h
  rename_i x s' hx
  simp only [Bool.and_eq_true] at h
  obtain ⟨⟨hp, hv⟩, he⟩ := h
  have := avEq_eq _ _ he
  subst this
  intro cs
  obtain ⟨e, w', fr, ⟨u, ρ', rfl, _, hu, _, hB⟩, h2⟩ := callN_ok ok mo hv0 hR (plainGs_any hp ha) hx cs
  exact ⟨_, w', fr, ⟨u, rfl, plainV_any hv hu, hB.at⟩, h2⟩
end
end Go.Eng
