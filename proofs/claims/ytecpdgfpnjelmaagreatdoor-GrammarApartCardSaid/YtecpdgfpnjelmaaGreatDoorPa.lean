/- GrammarApart answers true at every input, where the listed variables read as the program lays them; its arguments read as they did. Condition: the row's own. -/
import Derived.Test.YtecpdgfpnjelmaaGreatDoorWa
import Derived.Test.YtecpdgfpnjelmaaGreatDoorLa
import Derived.Test.YtecpdgfpnjelmaaGreatDoorRi
import Derived.Test.YtecpdgfpnjelmaaGreatDoorTie
import Derived.Test.YtecpdgfpnjelmaaGreatDoorCards
import Derived.ProofKit
import Derived.OpenShut
import Derived.LaidMore
import Derived.Lay
import Derived.SevenTiedAt
import Derived.Stop.Joined
namespace Go.Proofs.YtecpdgfpnjelmaaGreatDoor
open Go Go.Eng Go.ChangeShapes Go.WideShapes Go.ChangeAt Go.RowKit

/-- A change's contract, from a start whose variables have their shape. -/
theorem handed_shaped {H : Type} {enc : TypeId × Value → H} {a : Assume} {C : Checked} {os : Os} {f : FuncId} {fn : Func} {s : ChangeSpec} {conds : List PathCond} {apart fresh handsOn again : Bool} {X : World → Array Value → Prop}
    (hX : ∀ (w w' : World) (args : Array Value), w.heap = w'.heap → X w args → X w' args)
    (own : ownKnob C.prog.godebug = none) (started : os.Started) (noInit : C.prog.inits.idxOf? f = none) (hfn : C.prog.funcs[f]? = some fn)
    (witness : ∃ (w : World) (tape : Tape) (i : Input), w.os = os ∧ (w.forCall tape i).Shaped C.prog ∧ i.vars = [] ∧ Input.okWide C.prog (w.forCall tape i) .any w.heap.size f i ∧
      ((s.pre enc C.prog fn conds apart (w.forCall tape i).memory i.args ∧ X (w.forCall tape i).memory i.args) ∧ sizedMet enc C.prog fn (OpenSpec.ofChange s) apart (w.forCall tape i).memory i.args) ∧ a.holds C.prog (lone (Frame.enter C.prog f i.args .normal) [] (w.forCall tape i)))
    (contract : ∀ (W : World) (base : Nat) (args : Array Value) (ds gs : List (DataW H)) (before : List MemPlace), W.ShapedOpen C.prog →
      (∀ (j : Nat) t v, fn.params[j]? = some t → args[j]? = some v → Value.okWide C.prog W .any base t v) →
      DataW.Whole enc C.prog fn.params.toList s.vars apart W args.toList ds gs before → X W args →
      Calls C.prog f args W fun e W' => ∃ v, e = .returned v ∧ s.post enc C.prog fn apart fresh handsOn again W args v W') :
    ReturnsInHanded a C os f .any (fun w args => (s.pre enc C.prog fn conds apart w args ∧ X w args) ∧ sizedMet enc C.prog fn (OpenSpec.ofChange s) apart w args) (s.post enc C.prog fn apart fresh handsOn again) := by
  refine returnsInHanded_of_calls own started noInit witness ?_
  intro w tape i _ hs _ hok hpre _
  obtain ⟨_, _, _, fn', hfn', _, _, _, _, hval⟩ := hok
  have e : fn' = fn := Option.some.inj (hfn'.symm.trans hfn)
  subst e
  obtain ⟨⟨⟨ds, gs, before, hw, _⟩, hx⟩, _⟩ := hpre
  have hw' := DataW.Whole.of_heap (w' := w.forCall tape i) (by rfl) hw
  refine (contract (w.forCall tape i) w.heap.size i.args ds gs before hs hval hw' (hX _ _ _ (by rfl) hx)).mono fun e W' ⟨v, he, hp⟩ => ?_
  subst he
  exact ChangeSpec.post_blind hp

abbrev Tryz.laid : List (String × DataW Unit) := Rows.grammarApartRow.laid
theorem Tryz.own : ownKnob Tryz.prog.godebug = none := by kernel_rfl
theorem gl_has : hasG gl (stOf gl) = true := by kernel_rfl

/-- The variables hold what the engine reads. -/
theorem gl_laid {W : World} {σ : Nat → Value} (h : laidMet Tryz.prog Tryz.laid W) (hs : W.ShapedOpen Tryz.prog) : ∀ x ∈ gl, x.el < tailN ∧ ∃ c fr, W.heap[x.g]? = some (.cells c x.el fr) ∧ VRs (fun _ => none) σ x.cs c.toList := by
  intro x hx
  have mem : ∀ y, y ∈ Tryz.laid ↔ y ∈ Rows.grammarApartRow.laid := fun _ => Iff.rfl
  simp only [Rows.grammarApartRow, Tryz.laid] at h mem
  simp only [gl, List.mem_cons, List.mem_nil_iff, or_false] at hx
  rcases hx with rfl | rfl | rfl | rfl | rfl | rfl | rfl | rfl | rfl | rfl | rfl
  · exact ⟨Nat.le_of_ble_eq_true (by kernel_rfl), plain_var (nm := "kalends/table.many") (t := 132) h hs (by simp) (by kernel_rfl) (by kernel_rfl) 4 (by kernel_rfl) (Nat.le_of_ble_eq_true (by kernel_rfl)) (by kernel_rfl)⟩
  · exact ⟨Nat.le_of_ble_eq_true (by kernel_rfl), plain_var (nm := "unicode/utf8.first") (t := 174) h hs (by simp) (by kernel_rfl) (by kernel_rfl) 4 (by kernel_rfl) (Nat.le_of_ble_eq_true (by kernel_rfl)) (by kernel_rfl)⟩
  · exact ⟨Nat.le_of_ble_eq_true (by kernel_rfl), plain_var (nm := "unicode/utf8.acceptRanges") (t := 177) h hs (by simp) (by kernel_rfl) (by kernel_rfl) 4 (by kernel_rfl) (Nat.le_of_ble_eq_true (by kernel_rfl)) (by kernel_rfl)⟩
  · exact ⟨Nat.le_of_ble_eq_true (by kernel_rfl), plain_var (nm := "kalends/civil.months") (t := 222) h hs (by simp) (by kernel_rfl) (by kernel_rfl) 4 (by kernel_rfl) (Nat.le_of_ble_eq_true (by kernel_rfl)) (by kernel_rfl)⟩
  · exact ⟨Nat.le_of_ble_eq_true (by kernel_rfl), iface_var (nm := "strconv.ErrSyntax") (t := 125) h hs (D := Rows.laid_strconv_ErrSyntax) (by simp) rfl (by kernel_rfl) (by kernel_rfl) Tryz.underlying125 (Nat.le_of_ble_eq_true (by kernel_rfl)) (by kernel_rfl)⟩
  · exact ⟨Nat.le_of_ble_eq_true (by kernel_rfl), iface_var (nm := "strconv.ErrRange") (t := 125) h hs (D := Rows.laid_strconv_ErrRange) (by simp) rfl (by kernel_rfl) (by kernel_rfl) Tryz.underlying125 (Nat.le_of_ble_eq_true (by kernel_rfl)) (by kernel_rfl)⟩
  · exact ⟨Nat.le_of_ble_eq_true (by kernel_rfl), plain_var (nm := "internal/strconv.uint64pow10") (t := 248) h hs (by simp) (by kernel_rfl) (by kernel_rfl) 4 (by kernel_rfl) (Nat.le_of_ble_eq_true (by kernel_rfl)) (by kernel_rfl)⟩
  · exact ⟨Nat.le_of_ble_eq_true (by kernel_rfl), plain_var (nm := "kalends/rfc.freqs") (t := 265) h hs (by simp) (by kernel_rfl) (by kernel_rfl) 4 (by kernel_rfl) (Nat.le_of_ble_eq_true (by kernel_rfl)) (by kernel_rfl)⟩
  · exact ⟨Nat.le_of_ble_eq_true (by kernel_rfl), plain_var (nm := "math/bits.deBruijn32tab") (t := 277) h hs (by simp) (by kernel_rfl) (by kernel_rfl) 4 (by kernel_rfl) (Nat.le_of_ble_eq_true (by kernel_rfl)) (by kernel_rfl)⟩
  · exact ⟨Nat.le_of_ble_eq_true (by kernel_rfl), plain_var (nm := "math/bits.deBruijn64tab") (t := 278) h hs (by simp) (by kernel_rfl) (by kernel_rfl) 4 (by kernel_rfl) (Nat.le_of_ble_eq_true (by kernel_rfl)) (by kernel_rfl)⟩
  · exact ⟨Nat.le_of_ble_eq_true (by kernel_rfl), plain_var (nm := "kalends/rfc.weekdays") (t := 288) h hs (by simp) (by kernel_rfl) (by kernel_rfl) 4 (by kernel_rfl) (Nat.le_of_ble_eq_true (by kernel_rfl)) (by kernel_rfl)⟩

/-- Awake answers true wherever the variables lie as laid. -/
theorem awake_laid {W : World} (h : laidMet Tryz.prog Tryz.laid W) (hs : W.ShapedOpen Tryz.prog) : Calls Tryz.prog 6 #[] W fun e w' => e = .returned (.bool true) ∧ Below W.heap.size W w' := by
  refine (KnownI.calls (σ := fun _ => .bool false) glOK know12 (gl_laid h hs) gl_has rfl).mono ?_
  rintro e w' ⟨u, rfl, hu, hB⟩
  have hu : u = .bool true := hu
  subst hu
  exact ⟨rfl, hB⟩
end Go.Proofs.YtecpdgfpnjelmaaGreatDoor
