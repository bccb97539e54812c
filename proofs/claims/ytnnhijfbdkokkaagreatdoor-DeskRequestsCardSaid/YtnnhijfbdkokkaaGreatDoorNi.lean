/- DeskRequests: from the row's start. No condition. -/
import Derived.Test.YtnnhijfbdkokkaaGreatDoorNh
import Derived.Test.YtnnhijfbdkokkaaGreatDoorPg
import Derived.Test.YtnnhijfbdkokkaaGreatDoorPx
namespace Go.Proofs.YtnnhijfbdkokkaaGreatDoor
open Go Go.Eng Go.ChangeShapes Go.WideShapes Go.ChangeAt Go.RowKit
set_option maxRecDepth 100000

theorem gl2_has : hasG gl2 (stOf gl2) = true := by kernel_rfl
theorem awake40 {W : World} (hL : laidMet Tryz.prog Tryz.laid21 W) (hS : W.ShapedOpen Tryz.prog) : Calls Tryz.prog 40 #[] W fun e w' => e = .returned (.bool true) ∧ Below W.heap.size W w' := by
  obtain ⟨m, hm⟩ := vars_laid21 hL hS
  obtain ⟨ρ, hR⟩ := hm (fun _ => .int .i64 m) rfl
  refine (know21 _ _ _ _ _ hR gl2_has _ _ rfl).mono ?_
  rintro e w' ⟨u, ρ', rfl, _, hu, _, hK⟩
  have hu : u = .bool true := hu
  subst hu
  exact ⟨rfl, hK.at⟩
theorem desk_lifted (os : Os) (started : os.Started) (H : Type) (enc : TypeId × Value → H) :
    ReturnsInHanded {} Tryz.checked os 13 .any (fun w args => (Rows.deskRequestsSpec.pre enc Tryz.prog Tryz.f13 [] false w args ∧ laidMetH Tryz.prog Tryz.laid21 w) ∧ sizedMet enc Tryz.prog Tryz.f13 (OpenSpec.ofChange Rows.deskRequestsSpec) false w args)
      (Rows.deskRequestsSpec.post enc Tryz.prog Tryz.f13 false true false false) := by
  refine handed_shaped (C := Tryz.checked) (X := fun w _ => laidMetH Tryz.prog Tryz.laid21 w) (fun _ _ _ hh h => h.of_heap hh) Tryz.own started (by kernel_rfl) Tryz.func13
    (ChangeSpec.witness_shaped (enc := enc) (C := Tryz.checked) (os := os) (X := fun w _ => laidMetH Tryz.prog Tryz.laid21 w) false (World.laidAll Tryz.prog os Tryz.laid21) #[.string ⟨#[]⟩] 8 (World.laidAll_os _ _ _)
      (World.shaped_of_ZipB (by kernel_rfl) (by kernel_rfl)) (by kernel_rfl) (by kernel_rfl) (by kernel_rfl)
      (by rw [MakeChecks.laidMetH_plain _ _ _ (by kernel_rfl)]; exact laidMet_laidAll _ (by kernel_rfl) (by kernel_rfl))) ?_
  intro W base args ds gs before hS hval0 hW hL
  have hval : ∀ (j : Nat) t v, Tryz.f13.params[j]? = some t → args[j]? = some v → Value.okWide Tryz.prog W .any base t v := hval0
  have hW' := hW
  obtain ⟨p, q, hA0, hV, rfl, _, _⟩ := hW
  have hA : DataW.TrodAll enc Tryz.prog W 0 (fun _ => true) true Tryz.f13.params.toList args.toList ds p := hA0
  rw [Tryz.params13] at hA hval
  rw [MakeChecks.laidMetH_plain _ _ _ (by kernel_rfl)] at hL
  obtain ⟨v0, d0, rfl, rfl, h0⟩ := trodAll_one hA
  obtain ⟨rfl, rfl⟩ := trodVars_none hV
  obtain ⟨s, rfl, rfl, rfl, w0⟩ := ChangeMaps.open_string Tryz.underlying9 (hval 0 9 v0 rfl rfl) h0
  have e1 : Rows.deskRequestsSpec.fn H ([.lit (.string s.data.toList)] ++ []) = { results := [.lit (.bool true)], args := [.lit (.string s.data.toList)] } := by simp [Rows.deskRequestsSpec]
  obtain ⟨m, fr, hm⟩ := maxLen_laid hS
  refine (desk_calls s m W (awake40 hL hS) (by simp [World.cell?, hm])).mono fun e W' ⟨he, hB⟩ => ?_
  subst he
  refine ⟨_, rfl, _, _, _, [], [], [], hW', ?_, ?_, ?_, hB.frame _, fun h => by cases h⟩
  · rw [e1]; exact trodAll_mk1 (shut_bool Tryz.underlying4 true)
  · rw [e1]; exact trodAll_mk1 (ChangeMaps.shut_string Tryz.underlying9 w0)
  · rw [e1]; rfl
end Go.Proofs.YtnnhijfbdkokkaaGreatDoor
