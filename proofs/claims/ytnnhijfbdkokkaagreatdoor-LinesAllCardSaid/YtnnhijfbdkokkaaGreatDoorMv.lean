/- The errors' variables are laid; five parameters. No condition. -/
import Derived.Test.YtnnhijfbdkokkaaGreatDoorWc
import Derived.Test.YtnnhijfbdkokkaaGreatDoorQa
namespace Go.Proofs.YtnnhijfbdkokkaaGreatDoor
open Go Go.Eng Go.ChangeShapes Go.WideShapes Go.ChangeAt Go.RowKit
set_option maxRecDepth 100000
noncomputable section

/-! ### The errors' variables are laid -/
theorem iface_laid {W : World} (h : laidMet Tryz.prog Tryz.laid W) (hs : W.ShapedOpen Tryz.prog) {nm ty : String} {d : DataW Unit} (hm : (nm, DataW.iface ty d) ∈ Tryz.laid) {g t el : Nat} (hg : Tryz.prog.globalNamed nm = some g) (ht : (Tryz.prog.globals[g]?).map (·.type) = some t) (hu : (match Tryz.prog.underlying t with | some (.interface _) => true | _ => false) = true)
    (hlt : g < Tryz.prog.globals.size) (hel : (((begin Tryz.prog (fun _ _ => 0) default).world.heap[g]?).bind Obj.row?).map (·.2) = some el) : ifaceAt g W := by
  obtain ⟨ps, hl, _⟩ := h
  obtain ⟨g', t', cs, fuel, p, h1, h2, h3, h4⟩ := laid_at hl _ hm
  obtain rfl := Option.some.inj (hg.symm.trans h1)
  obtain rfl := Option.some.inj (ht.symm.trans h2)
  obtain ⟨ms, hu⟩ : ∃ ms, Tryz.prog.underlying t = some (.interface ms) := by
    split at hu
    · exact ⟨_, by assumption⟩
    · cases hu
  obtain ⟨⟨zero, el'⟩, hz, he⟩ := Option.map_eq_some_iff.1 hel
  obtain ⟨cs2, hc, _⟩ := hs.1 g zero el' hlt hz
  unfold World.var? at h3
  rw [h1] at h3
  simp only [Option.bind_some, hc, Option.some.injEq] at h3
  subst h3
  have hv : ∃ u v, cs2.toList = [.iface u v] := by
    cases fuel with
    | zero => simp [DataW.trod] at h4
    | succ fuel =>
      unfold DataW.trod at h4
      rw [hu] at h4
      generalize cs2.toList = l at h4 ⊢
      simp only at h4
      split at h4 <;> first | (rename_i hx; cases hx; done) | skip
      all_goals first
        | exact ⟨_, _, rfl⟩
        | (simp at h4; done)
        | (cases h4; done)
  obtain ⟨u, v, e⟩ := hv
  refine ⟨.iface u v, ?_, .inr ⟨u, v, rfl⟩⟩
  rw [cell_at hc, ← Array.getElem?_toList, e]; rfl
theorem errV_laid {W : World} (h : laidMet Tryz.prog Tryz.laid W) (hs : W.ShapedOpen Tryz.prog) : errV W := by
  refine ⟨tabV_laid h hs, ?_, ?_⟩
  · exact iface_laid h hs (nm := "strconv.ErrSyntax") (ty := "*errors.errorString") (d := .ptr (.agg [.lit (.string [105, 110, 118, 97, 108, 105, 100, 32, 115, 121, 110, 116, 97, 120])])) (by simp [Tryz.laid, Rows.linesTextsRow, Rows.laid_strconv_ErrSyntax]) (g := 2) (by kernel_rfl) (t := 38) (by kernel_rfl) (by kernel_rfl) (Nat.le_of_ble_eq_true (by kernel_rfl)) (el := 38) (by kernel_rfl)
  · exact iface_laid h hs (nm := "strconv.ErrRange") (ty := "*errors.errorString") (d := .ptr (.agg [.lit (.string [118, 97, 108, 117, 101, 32, 111, 117, 116, 32, 111, 102, 32, 114, 97, 110, 103, 101])])) (by simp [Tryz.laid, Rows.linesTextsRow, Rows.laid_strconv_ErrRange]) (g := 3) (by kernel_rfl) (t := 38) (by kernel_rfl) (by kernel_rfl) (Nat.le_of_ble_eq_true (by kernel_rfl)) (el := 38) (by kernel_rfl)


section
variable {H : Type} {enc : TypeId × Value → H} {P : Program} {w : World} {base : Nat} {spare : Nat → Bool} {held : Bool}
theorem trodAll_five {t0 t1 t2 t3 t4 : TypeId} {args : Array Value} {ds : List (DataW H)} {ps : List MemPlace} (h : DataW.TrodAll enc P w base spare held [t0, t1, t2, t3, t4] args.toList ds ps) :
    ∃ v0 v1 v2 v3 v4 d0 d1 d2 d3 d4 p0 p1 p2 p3 p4, args = #[v0, v1, v2, v3, v4] ∧ ds = [d0, d1, d2, d3, d4] ∧ ps = p0 ++ p1 ++ p2 ++ p3 ++ p4 ∧ DataW.Trod enc P w base spare held t0 v0 d0 p0 ∧ DataW.Trod enc P w base spare held t1 v1 d1 p1 ∧ DataW.Trod enc P w base spare held t2 v2 d2 p2 ∧ DataW.Trod enc P w base spare held t3 v3 d3 p3 ∧ DataW.Trod enc P w base spare held t4 v4 d4 p4 := by
  obtain ⟨v0, vs0, d0, ds0, p0, q0, hargs, rfl, rfl, h0, hrest⟩ := trodAll_cons h
  obtain ⟨v1, vs1, d1, ds1, p1, q1, rfl, rfl, rfl, h1, hrest⟩ := trodAll_cons hrest
  obtain ⟨v2, vs2, d2, ds2, p2, q2, rfl, rfl, rfl, h2, hrest⟩ := trodAll_cons hrest
  obtain ⟨v3, vs3, d3, ds3, p3, q3, rfl, rfl, rfl, h3, hrest⟩ := trodAll_cons hrest
  obtain ⟨v4, vs4, d4, ds4, p4, q4, rfl, rfl, rfl, h4, hrest⟩ := trodAll_cons hrest
  obtain ⟨rfl, rfl, rfl⟩ := trodAll_nil hrest
  exact ⟨v0, v1, v2, v3, v4, d0, d1, d2, d3, d4, p0, p1, p2, p3, p4, by cases args; simp_all, rfl, by simp, h0, h1, h2, h3, h4⟩
theorem trodAll_mk5 {t0 t1 t2 t3 t4 : TypeId} {v0 v1 v2 v3 v4 : Value} {d0 d1 d2 d3 d4 : DataW H} {p0 p1 p2 p3 p4 : List MemPlace} (h0 : DataW.Trod enc P w base spare held t0 v0 d0 p0) (h1 : DataW.Trod enc P w base spare held t1 v1 d1 p1)
    (h2 : DataW.Trod enc P w base spare held t2 v2 d2 p2) (h3 : DataW.Trod enc P w base spare held t3 v3 d3 p3) (h4 : DataW.Trod enc P w base spare held t4 v4 d4 p4) :
    DataW.TrodAll enc P w base spare held [t0, t1, t2, t3, t4] [v0, v1, v2, v3, v4] [d0, d1, d2, d3, d4] (p0 ++ (p1 ++ (p2 ++ (p3 ++ p4)))) := ⟨p0, p1 ++ (p2 ++ (p3 ++ p4)), h0, trodAll_mk4 h1 h2 h3 h4, rfl⟩
end
theorem int_of_wf {z : Int} (h : (Lit.int .i32 z).wf = true) : -2147483648 ≤ z ∧ z ≤ 2147483647 := by
  simp only [Lit.wf, Bool.and_eq_true, decide_eq_true_eq] at h
  have h0 : (-2147483648 : Int) ≤ z := by simpa [IntKind.min, IntKind.signed, IntKind.bits] using h.1
  have h1 : z ≤ 2147483647 := by simpa [IntKind.max, IntKind.signed, IntKind.bits] using h.2
  exact ⟨h0, h1⟩
theorem nat8_of_wf {z : Int} (h : (Lit.int .u8 z).wf = true) : ∃ n : Nat, z = n ∧ n < 256 := by
  simp only [Lit.wf, Bool.and_eq_true, decide_eq_true_eq] at h
  have h0 : (0 : Int) ≤ z := by simpa [IntKind.min, IntKind.signed] using h.1
  have h1 : z ≤ 255 := by simpa [IntKind.max, IntKind.signed, IntKind.bits] using h.2
  exact ⟨z.toNat, by omega, by omega⟩
end
end Go.Proofs.YtnnhijfbdkokkaaGreatDoor
