/- ServerRange answers true at every input, where the listed variables read as the program lays them; its arguments read as they did: the walk. Condition: the row's own. -/
import Derived.Test.YtnnhijfbdkokkaaGreatDoorQa
import Derived.Test.YtnnhijfbdkokkaaGreatDoorGc
import Derived.Carry
namespace Go.Proofs.YtnnhijfbdkokkaaGreatDoor
open Go Go.Eng Go.ChangeShapes Go.WideShapes Go.ChangeAt Go.RowKit
set_option maxRecDepth 100000

/-- Whatever the numbers, ServerRange hands back true. -/
theorem range_calls {W : World} (hL : laidMet Tryz.prog Tryz.laid W) (hS : W.ShapedOpen Tryz.prog) {l b n : Nat} {wr : Bool} (h0 : l < 4294967296) (h1 : b < 4294967296) :
    Calls Tryz.prog fServerRange #[.int .u32 l, .int .u32 b, .int .u8 n, .bool wr] W (fun e W' => e = .returned (.bool true) ∧ Below W.heap.size W W') := by
  obtain ⟨m, hm⟩ := vars_laid hL hS
  have hV := tabV_laid hL hS
  let c : CtxR := ⟨l, b, n, wr⟩
  obtain ⟨ρ, hR⟩ := hm (withM c.sg m) (withM_kM _ _)
  have row : PRow Tryz.prog gl (withM c.sg m) fServerRange (argR wr) (.bool true) tabV := range_all (c := c) ⟨h0, h1⟩
  refine (row W _ (tabV_hold W hV) ⟨ρ, hR⟩ ⟨_, _, rfl, ⟨?_, rfl⟩, _, _, rfl, ⟨?_, rfl⟩, _, _, rfl, ⟨?_, rfl⟩, _, _, rfl, rfl, rfl⟩).mono fun e W' ⟨u, he, hu, hB⟩ => ⟨by rw [he]; exact congrArg Ending.returned hu, hB⟩
  · rw [CtxR.sg_lt (by omega)]; rfl
  · rw [CtxR.sg_lt (by omega)]; rfl
  · rw [CtxR.sg_lt (by omega)]; rfl

theorem range_lifted (os : Os) (started : os.Started) (H : Type) (enc : TypeId × Value → H) :
    ReturnsInHanded {} Tryz.checked os 11 .any (fun w args => (Rows.serverRangeSpec.pre enc Tryz.prog Tryz.f11 [] false w args ∧ laidMetH Tryz.prog Tryz.laid w) ∧ sizedMet enc Tryz.prog Tryz.f11 (OpenSpec.ofChange Rows.serverRangeSpec) false w args)
      (Rows.serverRangeSpec.post enc Tryz.prog Tryz.f11 false true false false) := by
  refine handed_shaped (C := Tryz.checked) (X := fun w _ => laidMetH Tryz.prog Tryz.laid w) (fun _ _ _ hh h => h.of_heap hh) Tryz.own started (by kernel_rfl) Tryz.func11
    (ChangeSpec.witness_shaped (enc := enc) (C := Tryz.checked) (os := os) (X := fun w _ => laidMetH Tryz.prog Tryz.laid w) false (World.laidAll Tryz.prog os Tryz.laid) #[.int .u32 0, .int .u32 0, .int .u8 0, .bool false] 8 (World.laidAll_os _ _ _)
      (World.shaped_of_ZipB (by kernel_rfl) (by kernel_rfl)) (by kernel_rfl) (by kernel_rfl) (by kernel_rfl)
      (by rw [MakeChecks.laidMetH_plain _ _ _ (by kernel_rfl)]; exact laidMet_laidAll _ (by kernel_rfl) (by kernel_rfl))) ?_
  intro W base args ds gs before hS hval0 hW hL
  have hval : ∀ (j : Nat) t v, Tryz.f11.params[j]? = some t → args[j]? = some v → Value.okWide Tryz.prog W .any base t v := hval0
  have hW' := hW
  obtain ⟨p, q, hA0, hV, rfl, _, _⟩ := hW
  have hA : DataW.TrodAll enc Tryz.prog W 0 (fun _ => true) true Tryz.f11.params.toList args.toList ds p := hA0
  rw [Tryz.params11] at hA hval
  rw [MakeChecks.laidMetH_plain _ _ _ (by kernel_rfl)] at hL
  obtain ⟨v0, v1, v2, v3, d0, d1, d2, d3, p0, p1, p2, p3, rfl, rfl, rfl, h0, h1, h2, h3⟩ := trodAll_four hA
  obtain ⟨rfl, rfl⟩ := trodVars_none hV
  obtain ⟨l, rfl, rfl, rfl, w0⟩ := open_int Tryz.underlying27 (hval 0 27 v0 rfl rfl) h0
  obtain ⟨b, rfl, rfl, rfl, w1⟩ := open_int Tryz.underlying27 (hval 1 27 v1 rfl rfl) h1
  obtain ⟨n, rfl, rfl, rfl, w2⟩ := open_int Tryz.underlying5 (hval 2 5 v2 rfl rfl) h2
  obtain ⟨wr, rfl, rfl, rfl⟩ := open_bool Tryz.underlying4 (hval 3 4 v3 rfl rfl) h3
  have e1 : Rows.serverRangeSpec.fn H ([.lit (.int .u32 l), .lit (.int .u32 b), .lit (.int .u8 n), .lit (.bool wr)] ++ []) = { results := [.lit (.bool true)], args := [.lit (.int .u32 l), .lit (.int .u32 b), .lit (.int .u8 n), .lit (.bool wr)] } := by simp [Rows.serverRangeSpec]
  obtain ⟨l, rfl, h4⟩ := nat_of_wf (.inr rfl) w0
  obtain ⟨b, rfl, h5⟩ := nat_of_wf (.inr rfl) w1
  obtain ⟨n, rfl, _⟩ := nat_of_wf (.inl rfl) w2
  refine (range_calls hL hS h4 h5).mono fun e W' ⟨he, hB⟩ => ?_
  subst he
  refine ⟨_, rfl, _, _, _, [], [], [], hW', ?_, ?_, ?_, hB.frame _, fun h => by cases h⟩
  · rw [e1]; exact trodAll_mk1 (shut_bool Tryz.underlying4 true)
  · rw [e1]; exact trodAll_mk4 (shut_int Tryz.underlying27 w0) (shut_int Tryz.underlying27 w1) (shut_int Tryz.underlying5 w2) (shut_bool Tryz.underlying4 wr)
  · rw [e1]; rfl
end Go.Proofs.YtnnhijfbdkokkaaGreatDoor
