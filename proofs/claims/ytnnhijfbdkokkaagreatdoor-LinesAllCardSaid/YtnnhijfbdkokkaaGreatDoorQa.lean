/- What a request's argument is; that the table of powers stands as laid. No condition. -/
import Derived.Test.YtnnhijfbdkokkaaGreatDoorPx
import Derived.Test.YtnnhijfbdkokkaaGreatDoorBd
namespace Go.Proofs.YtnnhijfbdkokkaaGreatDoor
open Go Go.Eng Go.ChangeShapes Go.WideShapes Go.ChangeAt Go.RowKit
set_option maxRecDepth 100000

section
variable {H : Type} {enc : TypeId × Value → H} {P : Program} {W W' : World} {b b' : Nat} {sp sp' : Nat → Bool} {hd hd' : Bool}
theorem leaf_int {n : Nat} {t : TypeId} {k : IntKind} {cs : List Value} {x : DataW H × List MemPlace} (hu : P.underlying t = some (.int k)) (h : DataW.trod enc P W b sp hd n t cs = some x) :
    ∃ z, cs = [.int k z] ∧ (Lit.int k z).wf = true ∧ x = (.lit (.int k z), []) ∧ DataW.trod enc P W' b' sp' hd' n t cs = some x := by
  cases n with
  | zero => simp [DataW.trod] at h
  | succ n =>
    unfold DataW.trod at h ⊢
    rw [hu] at h ⊢
    cases cs with
    | nil => simp at h
    | cons v r =>
      cases r with
      | cons _ _ => simp at h
      | nil =>
        cases v <;> first | (simp at h; done) | skip
        rename_i k' z
        simp only at h ⊢
        split at h
        · rename_i hc
          obtain ⟨rfl, hw⟩ := hc
          cases h
          exact ⟨z, rfl, hw, rfl, by rw [if_pos ⟨rfl, hw⟩]⟩
        · cases h
theorem leaf_str {n : Nat} {t : TypeId} {cs : List Value} {x : DataW H × List MemPlace} (hu : P.underlying t = some .string) (h : DataW.trod enc P W b sp hd n t cs = some x) :
    ∃ s : ByteArray, cs = [.string s] ∧ s.size ≤ maxLen ∧ x = (.lit (.string s.data.toList), []) ∧ DataW.trod enc P W' b' sp' hd' n t cs = some x := by
  cases n with
  | zero => simp [DataW.trod] at h
  | succ n =>
    unfold DataW.trod at h ⊢
    rw [hu] at h ⊢
    cases cs with
    | nil => simp at h
    | cons v r =>
      cases r with
      | cons _ _ => simp at h
      | nil =>
        cases v <;> first | (simp at h; done) | skip
        rename_i s
        simp only at h ⊢
        split at h
        · rename_i hc
          cases h
          exact ⟨s, rfl, hc, rfl, by rw [if_pos hc]⟩
        · cases h
end

/-- A request's argument: seven numbers and a text; it reads the same in every world. -/
theorem open_q {H : Type} {enc : TypeId × Value → H} {W W1 : World} {base b0 : Nat} {sp : Nat → Bool} {hd : Bool} {v : Value} {d : DataW H} {ps : List MemPlace} (hval : Value.okWide Tryz.prog W1 .any b0 55 v) (h : DataW.Trod enc Tryz.prog W base sp hd 55 v d ps) :
    ∃ (a0 a1 s0 s1 s2 c0 c1 : Int) (t : ByteArray), v = .agg #[.int .u8 a0, .int .u8 a1, .int .u32 s0, .int .u32 s1, .int .u32 s2, .int .u32 c0, .int .u32 c1, .string t] ∧ (Lit.int .u8 a0).wf = true ∧ (Lit.int .u8 a1).wf = true ∧ (Lit.int .u32 s0).wf = true ∧ (Lit.int .u32 s1).wf = true ∧
      (Lit.int .u32 s2).wf = true ∧ (Lit.int .u32 c0).wf = true ∧ (Lit.int .u32 c1).wf = true ∧ t.size ≤ maxLen ∧ ps = [] ∧ (∀ W' base' sp' hd', DataW.Trod enc Tryz.prog W' base' sp' hd' 55 v d []) ∧
      d = .agg [.lit (.int .u8 a0), .lit (.int .u8 a1), .lit (.int .u32 s0), .lit (.int .u32 s1), .lit (.int .u32 s2), .lit (.int .u32 c0), .lit (.int .u32 c1), .lit (.string t.data.toList)] := by
  unfold Value.okWide at hval
  rw [Tryz.underlying55] at hval
  obtain ⟨cs, rfl, hsz, _⟩ := hval
  have h8 : Tryz.prog.cellsOf 55 = 8 := by kernel_rfl
  rw [h8] at hsz
  obtain ⟨n, h⟩ := h
  cases n with
  | zero => simp [DataW.trod] at h
  | succ n =>
    have hcs : Value.cells (.agg cs) = cs := rfl
    rw [hcs] at h
    have h0 := h
    unfold DataW.trod at h
    rw [Tryz.underlying55] at h
    simp only at h
    rw [h8, if_pos (by simpa using hsz)] at h
    obtain ⟨v0, v1, v2, v3, v4, v5, v6, v7, e⟩ : ∃ v0 v1 v2 v3 v4 v5 v6 v7, cs.toList = [v0, v1, v2, v3, v4, v5, v6, v7] := by
      have : cs.toList.length = 8 := by simpa using hsz
      match hc : cs.toList, this with
      | [v0, v1, v2, v3, v4, v5, v6, v7], _ => exact ⟨v0, v1, v2, v3, v4, v5, v6, v7, rfl⟩
    rw [e] at h
    obtain ⟨xs, hxs, hx⟩ := Option.map_eq_some_iff.1 h
    have c5 : Tryz.prog.cellsOf 5 = 1 := by kernel_rfl
    have c27 : Tryz.prog.cellsOf 27 = 1 := by kernel_rfl
    have c9 : Tryz.prog.cellsOf 9 = 1 := by kernel_rfl
    simp only [List.mapM_cons, List.mapM_nil, c5, c27, c9] at hxs
    obtain ⟨y0, g0, hxs⟩ := Option.bind_eq_some_iff.1 hxs
    obtain ⟨l0, hxs, e0⟩ := Option.bind_eq_some_iff.1 hxs
    obtain ⟨y1, g1, hxs⟩ := Option.bind_eq_some_iff.1 hxs
    obtain ⟨l1, hxs, e1⟩ := Option.bind_eq_some_iff.1 hxs
    obtain ⟨y2, g2, hxs⟩ := Option.bind_eq_some_iff.1 hxs
    obtain ⟨l2, hxs, e2⟩ := Option.bind_eq_some_iff.1 hxs
    obtain ⟨y3, g3, hxs⟩ := Option.bind_eq_some_iff.1 hxs
    obtain ⟨l3, hxs, e3⟩ := Option.bind_eq_some_iff.1 hxs
    obtain ⟨y4, g4, hxs⟩ := Option.bind_eq_some_iff.1 hxs
    obtain ⟨l4, hxs, e4⟩ := Option.bind_eq_some_iff.1 hxs
    obtain ⟨y5, g5, hxs⟩ := Option.bind_eq_some_iff.1 hxs
    obtain ⟨l5, hxs, e5⟩ := Option.bind_eq_some_iff.1 hxs
    obtain ⟨y6, g6, hxs⟩ := Option.bind_eq_some_iff.1 hxs
    obtain ⟨l6, hxs, e6⟩ := Option.bind_eq_some_iff.1 hxs
    obtain ⟨y7, g7, hxs⟩ := Option.bind_eq_some_iff.1 hxs
    obtain ⟨l7, hxs, e7⟩ := Option.bind_eq_some_iff.1 hxs
    cases hxs; cases e7; cases e6; cases e5; cases e4; cases e3; cases e2; cases e1; cases e0
    have k0 := fun W' base' sp' hd' => leaf_int (W' := W') (b' := base') (sp' := sp') (hd' := hd') Tryz.underlying5 g0
    have k1 := fun W' base' sp' hd' => leaf_int (W' := W') (b' := base') (sp' := sp') (hd' := hd') Tryz.underlying5 g1
    have k2 := fun W' base' sp' hd' => leaf_int (W' := W') (b' := base') (sp' := sp') (hd' := hd') Tryz.underlying27 g2
    have k3 := fun W' base' sp' hd' => leaf_int (W' := W') (b' := base') (sp' := sp') (hd' := hd') Tryz.underlying27 g3
    have k4 := fun W' base' sp' hd' => leaf_int (W' := W') (b' := base') (sp' := sp') (hd' := hd') Tryz.underlying27 g4
    have k5 := fun W' base' sp' hd' => leaf_int (W' := W') (b' := base') (sp' := sp') (hd' := hd') Tryz.underlying27 g5
    have k6 := fun W' base' sp' hd' => leaf_int (W' := W') (b' := base') (sp' := sp') (hd' := hd') Tryz.underlying27 g6
    have k7 := fun W' base' sp' hd' => leaf_str (W' := W') (b' := base') (sp' := sp') (hd' := hd') Tryz.underlying9 g7
    obtain ⟨a0, q0, w0, r0, _⟩ := k0 W base sp hd
    obtain ⟨a1, q1, w1, r1, _⟩ := k1 W base sp hd
    obtain ⟨a2, q2, w2, r2, _⟩ := k2 W base sp hd
    obtain ⟨a3, q3, w3, r3, _⟩ := k3 W base sp hd
    obtain ⟨a4, q4, w4, r4, _⟩ := k4 W base sp hd
    obtain ⟨a5, q5, w5, r5, _⟩ := k5 W base sp hd
    obtain ⟨a6, q6, w6, r6, _⟩ := k6 W base sp hd
    obtain ⟨a7, q7, w7, r7, _⟩ := k7 W base sp hd
    have p0 : v0 = .int .u8 a0 := by simpa using q0
    have p1 : v1 = .int .u8 a1 := by simpa using q1
    have p2 : v2 = .int .u32 a2 := by simpa using q2
    have p3 : v3 = .int .u32 a3 := by simpa using q3
    have p4 : v4 = .int .u32 a4 := by simpa using q4
    have p5 : v5 = .int .u32 a5 := by simpa using q5
    have p6 : v6 = .int .u32 a6 := by simpa using q6
    have p7 : v7 = .string a7 := by simpa using q7
    refine ⟨a0, a1, a2, a3, a4, a5, a6, a7, ?_, w0, w1, w2, w3, w4, w5, w6, w7, ?_, fun W' base' sp' hd' => ⟨n + 1, ?_⟩, ?_⟩
    · congr 1
      apply Array.ext'
      rw [e, p0, p1, p2, p3, p4, p5, p6, p7]
    · have := congrArg Prod.snd hx
      rw [r0, r1, r2, r3, r4, r5, r6, r7] at this
      exact this.symm
    · rw [hcs]
      unfold DataW.trod
      rw [Tryz.underlying55]
      simp only
      rw [h8, if_pos (by simpa using hsz), e]
      simp only [List.mapM_cons, List.mapM_nil, c5, c27, c9]
      rw [(k0 W' base' sp' hd').choose_spec.2.2.2, (k1 W' base' sp' hd').choose_spec.2.2.2, (k2 W' base' sp' hd').choose_spec.2.2.2, (k3 W' base' sp' hd').choose_spec.2.2.2, (k4 W' base' sp' hd').choose_spec.2.2.2, (k5 W' base' sp' hd').choose_spec.2.2.2, (k6 W' base' sp' hd').choose_spec.2.2.2, (k7 W' base' sp' hd').choose_spec.2.2.2]
      have hps : ps = [] := by
        have := congrArg Prod.snd hx
        rw [r0, r1, r2, r3, r4, r5, r6, r7] at this
        exact this.symm
      subst hps
      exact congrArg some hx
    · have := congrArg Prod.fst hx
      rw [r0, r1, r2, r3, r4, r5, r6, r7] at this
      exact this.symm

theorem nat_of_wf {k : IntKind} {z : Int} (hk : k = .u8 ∨ k = .u32) (h : (Lit.int k z).wf = true) : ∃ n : Nat, z = n ∧ n < 4294967296 := by
  simp only [Lit.wf, Bool.and_eq_true, decide_eq_true_eq] at h
  rcases hk with rfl | rfl
  · have h0 : (0 : Int) ≤ z := by simpa [IntKind.min, IntKind.signed] using h.1
    have h1 : z ≤ 255 := by simpa [IntKind.max, IntKind.signed, IntKind.bits] using h.2
    exact ⟨z.toNat, by omega, by omega⟩
  · have h0 : (0 : Int) ≤ z := by simpa [IntKind.min, IntKind.signed] using h.1
    have h1 : z ≤ 4294967295 := by simpa [IntKind.max, IntKind.signed, IntKind.bits] using h.2
    exact ⟨z.toNat, by omega, by omega⟩

theorem tab_flat : flatD Rows.laid_internal_strconv_uint64pow10 = Lib.pow10Tab.map (AV.int .u64) := by kernel_rfl
/-- The table of powers stands as laid. -/
theorem tabV_laid {W : World} (h : laidMet Tryz.prog Tryz.laid W) (hs : W.ShapedOpen Tryz.prog) : tabV W := by
  have ml : ("internal/strconv.uint64pow10", (Rows.laid_internal_strconv_uint64pow10 : DataW Unit)) ∈ Tryz.laid := by simp [Tryz.laid, Rows.linesTextsRow]
  have hg : Tryz.prog.globalNamed "internal/strconv.uint64pow10" = some gPow := by kernel_rfl
  obtain ⟨c, fr, hc, hv⟩ := plain_var (ρ := fun _ => none) (σ := fun _ => .nilIface) h hs ml hg (t := tPow) (by kernel_rfl) 4 (by kernel_rfl) (Nat.le_of_ble_eq_true (by kernel_rfl)) (el := tPow) (by kernel_rfl)
  rw [tab_flat] at hv
  have e := tells_funs (l := Lib.pow10Tab.map (AV.int .u64)) (by rw [List.all_eq_true]; intro a ha; obtain ⟨z, _, rfl⟩ := List.mem_map.1 ha; rfl) hv (ints_rel (ρ := fun _ => none) (σ := fun _ => .nilIface) Lib.pow10Tab)
  unfold tabV Lib.TabIs World.var?
  rw [hg]
  simp only [Option.bind_some, hc]
  congr 1
  apply Array.ext'
  rw [e]
end Go.Proofs.YtnnhijfbdkokkaaGreatDoor
