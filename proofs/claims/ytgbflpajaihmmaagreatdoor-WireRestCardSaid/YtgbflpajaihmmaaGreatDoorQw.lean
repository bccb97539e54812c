/- WireBack answers true at every input, where the listed variables read as the program lays them; its argument reads as it did: the walk. Condition: the row's own. -/
import Derived.Test.YtgbflpajaihmmaaGreatDoorQa
namespace Go.Proofs.YtgbflpajaihmmaaGreatDoor
open Go Go.Eng Go.ChangeShapes Go.WideShapes Go.ChangeAt Go.RowKit
set_option maxRecDepth 100000

theorem strV_eta (t : ByteArray) : strV t.data.toList = .string t := by
  unfold strV
  rw [Array.toArray_toList]

/-- Whatever the request, WireBack hands back true. -/
theorem back_calls {W : World} (hL : laidMet Tryz.prog Tryz.laid W) (hS : W.ShapedOpen Tryz.prog) {a0 a1 s0 s1 s2 b0 b1 : Nat} (h5 : b0 < 4294967296) (h6 : b1 < 4294967296) {t : ByteArray} :
    Calls Tryz.prog 13 #[.agg #[.int .u8 a0, .int .u8 a1, .int .u32 s0, .int .u32 s1, .int .u32 s2, .int .u32 b0, .int .u32 b1, .string t]] W (fun e W' => e = .returned (.bool true) ∧ Below W.heap.size W W') := by
  obtain ⟨m, hm⟩ := vars_laid hL hS
  have hV := tabV_laid hL hS
  by_cases hl : t.data.toList.length ≤ 500
  · have dts : ∀ n : Nat, ∃ D : List UInt8, ∃ y mm d, Dated (1 + n % 3652059) y mm d ∧ D = dayT y mm d := fun n => by
      obtain ⟨y, mm, d, h⟩ := dated (1 + n % 3652059) (by omega) (by have := Nat.mod_lt n (show 0 < 3652059 by omega); omega)
      exact ⟨_, y, mm, d, h, rfl⟩
    obtain ⟨D0, hD0⟩ := dts s0
    obtain ⟨D1, hD1⟩ := dts s1
    obtain ⟨D2, hD2⟩ := dts s2
    let c : Ctx := ⟨a0, a1, fun j => match j with | 0 => s0 | 1 => s1 | _ => s2, fun j => match j with | 0 => b0 | _ => b1, fun j => match j with | 0 => D0 | 1 => D1 | _ => D2, t.data.toList, []⟩
    have hc : c.OK := ⟨fun j hj => by
        match j, hj with
        | 0, _ => exact hD0
        | 1, _ => exact hD1
        | 2, _ => exact hD2, fun j hj => by
        match j, hj with
        | 0, _ => exact h5
        | 1, _ => exact h6, hl⟩
    obtain ⟨ρ, hR⟩ := hm (withM c.sg m) (withM_kM _ _)
    refine (back_row hc W _ (tabV_hold W hV) ⟨ρ, hR⟩ ⟨_, _, rfl, ⟨_, rfl, _, _, rfl, ⟨?_, rfl⟩, _, _, rfl, ⟨?_, rfl⟩, _, _, rfl, ⟨?_, rfl⟩, _, _, rfl, ⟨?_, rfl⟩, _, _, rfl, ⟨?_, rfl⟩, _, _, rfl, ⟨?_, rfl⟩, _, _, rfl, ⟨?_, rfl⟩, _, _, rfl, ⟨?_, rfl⟩, rfl⟩, rfl⟩).mono fun e W' ⟨u, he, hu, hB⟩ => ⟨by rw [he]; exact congrArg Ending.returned hu, hB⟩
    · rw [Ctx.sg_lt (by omega)]; rfl
    · rw [Ctx.sg_lt (by omega)]; rfl
    · rw [Ctx.sg_lt (by omega)]; rfl
    · rw [Ctx.sg_lt (by omega)]; rfl
    · rw [Ctx.sg_lt (by omega)]; rfl
    · rw [Ctx.sg_lt (by omega)]; rfl
    · rw [Ctx.sg_lt (by omega)]; rfl
    · rw [Ctx.sg7]; exact (strV_eta t).symm
  · obtain ⟨ρ, hR⟩ := hm _ (withM_kM (fun i => pick .nilIface [.int .u8 a0, .int .u8 a1, .int .u32 s0, .int .u32 s1, .int .u32 s2, .int .u32 b0, .int .u32 b1, strV t.data.toList, .nilIface, .nilIface,
      .nilIface, .nilIface, .nilIface, .nilIface, .nilIface, .nilIface, .nilIface, .nilIface, .nilIface, .nilIface, .nilIface, .nilIface, .nilIface, .nilIface, .nilIface, .nilIface, .nilIface, .nilIface, .nilIface, .int .i64 (t.data.toList.length : Nat)] i) m)
    refine (back_row_X (t := t.data.toList) (by omega) W _ (tabV_hold W hV) ⟨ρ, hR⟩ ⟨_, _, rfl, ⟨_, rfl, _, _, rfl, ⟨rfl, rfl⟩, _, _, rfl, ⟨rfl, rfl⟩, _, _, rfl, ⟨rfl, rfl⟩, _, _, rfl, ⟨rfl, rfl⟩, _, _, rfl, ⟨rfl, rfl⟩, _, _, rfl, ⟨rfl, rfl⟩, _, _, rfl, ⟨rfl, rfl⟩, _, _, rfl, ⟨(strV_eta t).symm, rfl⟩, rfl⟩, rfl⟩).mono fun e W' ⟨u, he, hu, hB⟩ => ⟨by rw [he]; exact congrArg Ending.returned hu, hB⟩

theorem back_lifted (os : Os) (started : os.Started) (H : Type) (enc : TypeId × Value → H) :
    ReturnsInHanded {} Tryz.checked os 13 .any (fun w args => (Rows.wireBackSpec.pre enc Tryz.prog Tryz.f13 [] false w args ∧ laidMetH Tryz.prog Tryz.laid w) ∧ sizedMet enc Tryz.prog Tryz.f13 (OpenSpec.ofChange Rows.wireBackSpec) false w args)
      (Rows.wireBackSpec.post enc Tryz.prog Tryz.f13 false true false false) := by
  refine handed_shaped (C := Tryz.checked) (X := fun w _ => laidMetH Tryz.prog Tryz.laid w) (fun _ _ _ hh h => h.of_heap hh) Tryz.own started (by kernel_rfl) Tryz.func13
    (ChangeSpec.witness_shaped (enc := enc) (C := Tryz.checked) (os := os) (X := fun w _ => laidMetH Tryz.prog Tryz.laid w) false (World.laidAll Tryz.prog os Tryz.laid) #[.agg #[.int .u8 0, .int .u8 0, .int .u32 0, .int .u32 0, .int .u32 0, .int .u32 0, .int .u32 0, .string ⟨#[]⟩]] 8 (World.laidAll_os _ _ _)
      (World.shaped_of_ZipB (by kernel_rfl) (by kernel_rfl)) (by kernel_rfl) (by kernel_rfl) (by kernel_rfl)
      (by rw [MakeChecks.laidMetH_plain _ _ _ (by kernel_rfl)]; exact laidMet_laidAll _ (by kernel_rfl) (by kernel_rfl))) ?_
  intro W base args ds gs before hS hval0 hW hL
  have hval : ∀ (j : Nat) t v, Tryz.f13.params[j]? = some t → args[j]? = some v → Value.okWide Tryz.prog W .any base t v := hval0
  have hW' := hW
  obtain ⟨p, q, hA0, hV, rfl, _, _⟩ := hW
  have hA : DataW.TrodAll enc Tryz.prog W 0 (fun _ => true) true Tryz.f13.params.toList args.toList ds p := hA0
  rw [Tryz.params13] at hA hval
  rw [MakeChecks.laidMetH_plain _ _ _ (by kernel_rfl)] at hL
  obtain ⟨v0, d0, rfl, rfl, h0⟩ := trodAll_one hA
  obtain ⟨rfl, rfl⟩ := trodVars_none hV
  obtain ⟨a0, a1, s0, s1, s2, b0, b1, t, rfl, w0, w1, w2, w3, w4, w5, w6, w7, rfl, hsame, _⟩ := open_q (hval 0 55 v0 rfl rfl) h0
  have e1 : Rows.wireBackSpec.fn H ([d0] ++ []) = { results := [.lit (.bool true)], args := [d0] } := by simp [Rows.wireBackSpec]
  obtain ⟨a0, rfl, _⟩ := nat_of_wf (.inl rfl) w0
  obtain ⟨a1, rfl, _⟩ := nat_of_wf (.inl rfl) w1
  obtain ⟨s0, rfl, _⟩ := nat_of_wf (.inr rfl) w2
  obtain ⟨s1, rfl, _⟩ := nat_of_wf (.inr rfl) w3
  obtain ⟨s2, rfl, _⟩ := nat_of_wf (.inr rfl) w4
  obtain ⟨b0, rfl, h5⟩ := nat_of_wf (.inr rfl) w5
  obtain ⟨b1, rfl, h6⟩ := nat_of_wf (.inr rfl) w6
  refine (back_calls hL hS h5 h6).mono fun e W' ⟨he, hB⟩ => ?_
  subst he
  refine ⟨_, rfl, _, _, _, [], [], [], hW', ?_, ?_, ?_, hB.frame _, fun h => by cases h⟩
  · rw [e1]; exact trodAll_mk1 (shut_bool Tryz.underlying4 true)
  · rw [e1]; exact trodAll_mk1 (hsame _ _ _ _)
  · rw [e1]; rfl
end Go.Proofs.YtgbflpajaihmmaaGreatDoor
