/- ServerNone answers true at every input, where the listed variables read as the program lays them; its arguments read as they did: the walk. Condition: the row's own. -/
import Derived.Test.YtnnhijfbdkokkaaGreatDoorQa
import Derived.Test.YtnnhijfbdkokkaaGreatDoorDb
namespace Go.Proofs.YtnnhijfbdkokkaaGreatDoor
open Go Go.Eng Go.ChangeShapes Go.WideShapes Go.ChangeAt Go.RowKit
set_option maxRecDepth 100000

theorem nats_inj {a b : List UInt8} (h : nats a = nats b) : a = b := by
  have inj : ∀ x y : UInt8, x.toNat = y.toNat → x = y := fun x y e => UInt8.toNat_inj.1 e
  unfold nats at h
  exact List.map_inj_right inj |>.1 h

/-- Whatever the request and the name, ServerNone hands back true. -/
theorem none_calls {W : World} (hL : laidMet Tryz.prog Tryz.laid W) (hS : W.ShapedOpen Tryz.prog) {a0 a1 s0 s1 s2 b0 b1 : Nat} (h5 : b0 < 4294967296) (h6 : b1 < 4294967296) {t mo : ByteArray} :
    Calls Tryz.prog 12 #[.agg #[.int .u8 a0, .int .u8 a1, .int .u32 s0, .int .u32 s1, .int .u32 s2, .int .u32 b0, .int .u32 b1, .string t], .string mo] W (fun e W' => e = .returned (.bool true) ∧ Below W.heap.size W W') := by
  obtain ⟨m, hm⟩ := vars_laid hL hS
  have hV := tabV_laid hL hS
  have dts : ∀ n : Nat, ∃ D : List UInt8, ∃ y mm d, Dated (1 + n % 3652059) y mm d ∧ D = dayT y mm d := fun n => by
    obtain ⟨y, mm, d, h⟩ := dated (1 + n % 3652059) (by omega) (by have := Nat.mod_lt n (show 0 < 3652059 by omega); omega)
    exact ⟨_, y, mm, d, h, rfl⟩
  obtain ⟨D0, hD0⟩ := dts s0
  obtain ⟨D1, hD1⟩ := dts s1
  obtain ⟨D2, hD2⟩ := dts s2
  let c : CtxN := ⟨a0, a1, fun j => match j with | 0 => s0 | 1 => s1 | _ => s2, fun j => match j with | 0 => b0 | _ => b1, fun j => match j with | 0 => D0 | 1 => D1 | _ => D2, t.data.toList, mo.data.toList⟩
  obtain ⟨ρ, hR⟩ := hm (withM c.sg m) (withM_kM _ _)
  have g7 : withM c.sg m 7 = strV t.data.toList := CtxN.sg7
  have g8 : withM c.sg m 8 = strV mo.data.toList := CtxN.sg8
  have g29 : withM c.sg m 29 = .int .i64 (t.data.toList.length : Nat) := CtxN.sg_lt (by omega)
  have g26 : withM c.sg m 26 = .int .i64 (mo.data.toList.length : Nat) := CtxN.sg_lt (by omega)
  have hd : ∀ {tl nl ne : Bool}, tl = decide (300 < t.data.toList.length) → nl = decide (20 < mo.data.toList.length) → ne = decide (mo.data.toList = []) → ∀ E : Env, E.ty = E0.ty → ∀ r ∈ orHead tl nl ne, RowOK E 9 (withM c.sg m) r :=
    fun e1 e2 e3 E ht => orHead_ok ht g7 g8 g29 g26 e1 e2 e3
  have row : PRow Tryz.prog gl (withM c.sg m) fServerNone [qA, .sym 8] (.bool true) tabV := by
    by_cases hl : 300 < t.data.toList.length
    · exact other_row (runX0 _ _ _) g8 rfl (hd (decide_eq_true hl).symm rfl rfl)
    by_cases hn : 20 < mo.data.toList.length
    · exact other_row (runX1 _ _) g8 rfl (hd (decide_eq_false hl).symm (decide_eq_true hn).symm rfl)
    by_cases he : mo.data.toList = []
    · exact other_row (runX2 _) g8 rfl (hd (decide_eq_false hl).symm (decide_eq_false hn).symm (decide_eq_true he).symm)
    by_cases hb : 32 ∈ mo.data.toList
    · exact other_row runX3 g8 (decide_eq_true hb) (hd (decide_eq_false hl).symm (decide_eq_false hn).symm (decide_eq_false he).symm)
    have hh : ∀ E : Env, E.ty = E0.ty → ∀ r ∈ orHead false false false, RowOK E 9 (withM c.sg m) r := hd (decide_eq_false hl).symm (decide_eq_false hn).symm (decide_eq_false he).symm
    by_cases hi : ∃ i : Nat, names4[i]? = some (nats mo.data.toList)
    · obtain ⟨i, hi⟩ := hi
      have hi4 : i < 4 := (List.getElem?_eq_some_iff.1 hi).1
      refine other_row (allB_spec runX4 i (by
        have : ∀ i, i < 4 → i ∈ [0, 1, 2, 3] := by decide
        exact this i hi4)) g8 (decide_eq_false hb) fun E ht r hr => ?_
      rcases List.mem_append.1 hr with hr | hr
      · exact hh E ht r hr
      · exact orEq_ok g8 (names_one hi) r hr
    · have hno : ∀ x ∈ names4, nats mo.data.toList ≠ x := fun x hx e => hi (by
        obtain ⟨i, h⟩ := List.mem_iff_getElem?.1 hx
        exact ⟨i, by rw [h, e]⟩)
      by_cases hk : c.k < 3
      · have hc : c.OK := ⟨fun j hj => by
          match j, hj with
          | 0, _ => exact hD0
          | 1, _ => exact hD1
          | 2, _ => exact hD2, fun j hj => by
          match j, hj with
          | 0, _ => exact h5
          | 1, _ => exact h6, by show t.data.toList.length ≤ 300; omega, by show mo.data.toList.length ≤ 20; omega, he, hb, hno, hk⟩
        exact none_row hc
      · have hk3 : a0 % 4 = 3 := by
          have h1 : ¬ a0 % 4 < 3 := hk
          have h2 := Nat.mod_lt a0 (show 0 < 4 by omega)
          omega
        refine other_row runCk g8 (decide_eq_false hb) fun E ht r hr => ?_
        unfold orC at hr
        rcases List.mem_append.1 hr with hr | hr
        · exact hh E ht r hr
        rcases List.mem_append.1 hr with hr | hr
        · exact orEq_ok g8 (names_none hno) r hr
        · simp only [List.mem_cons, List.mem_nil_iff, or_false] at hr
          subst hr
          refine RowOK.rem .u8 (x := ((a0 : Nat) : Int)) (y := ((4 : Nat) : Int)) ?_ rfl rfl (by decide) ?_
          · show concS 0 (withM c.sg m 0) = _
            rw [CtxN.sg_lt (by omega)]; rfl
          · rw [tmodN, hk3]; rfl
  refine (row W _ (tabV_hold W hV) ⟨ρ, hR⟩ ⟨_, _, rfl, ⟨_, rfl, _, _, rfl, ⟨?_, rfl⟩, _, _, rfl, ⟨?_, rfl⟩, _, _, rfl, ⟨?_, rfl⟩, _, _, rfl, ⟨?_, rfl⟩, _, _, rfl, ⟨?_, rfl⟩, _, _, rfl, ⟨?_, rfl⟩, _, _, rfl, ⟨?_, rfl⟩, _, _, rfl, ⟨?_, rfl⟩, rfl⟩, _, _, rfl, ⟨?_, rfl⟩, rfl⟩).mono fun e W' ⟨u, he, hu, hB⟩ => ⟨by rw [he]; exact congrArg Ending.returned hu, hB⟩
  · rw [CtxN.sg_lt (by omega)]; rfl
  · rw [CtxN.sg_lt (by omega)]; rfl
  · rw [CtxN.sg_lt (by omega)]; rfl
  · rw [CtxN.sg_lt (by omega)]; rfl
  · rw [CtxN.sg_lt (by omega)]; rfl
  · rw [CtxN.sg_lt (by omega)]; rfl
  · rw [CtxN.sg_lt (by omega)]; rfl
  · rw [g7]; exact (strV_eta t).symm
  · rw [g8]; exact (strV_eta mo).symm

theorem none_lifted (os : Os) (started : os.Started) (H : Type) (enc : TypeId × Value → H) :
    ReturnsInHanded {} Tryz.checked os 12 .any (fun w args => (Rows.serverNoneSpec.pre enc Tryz.prog Tryz.f12 [] false w args ∧ laidMetH Tryz.prog Tryz.laid w) ∧ sizedMet enc Tryz.prog Tryz.f12 (OpenSpec.ofChange Rows.serverNoneSpec) false w args)
      (Rows.serverNoneSpec.post enc Tryz.prog Tryz.f12 false true false false) := by
  refine handed_shaped (C := Tryz.checked) (X := fun w _ => laidMetH Tryz.prog Tryz.laid w) (fun _ _ _ hh h => h.of_heap hh) Tryz.own started (by kernel_rfl) Tryz.func12
    (ChangeSpec.witness_shaped (enc := enc) (C := Tryz.checked) (os := os) (X := fun w _ => laidMetH Tryz.prog Tryz.laid w) false (World.laidAll Tryz.prog os Tryz.laid) #[.agg #[.int .u8 0, .int .u8 0, .int .u32 0, .int .u32 0, .int .u32 0, .int .u32 0, .int .u32 0, .string ⟨#[]⟩], .string ⟨#[]⟩] 8 (World.laidAll_os _ _ _)
      (World.shaped_of_ZipB (by kernel_rfl) (by kernel_rfl)) (by kernel_rfl) (by kernel_rfl) (by kernel_rfl)
      (by rw [MakeChecks.laidMetH_plain _ _ _ (by kernel_rfl)]; exact laidMet_laidAll _ (by kernel_rfl) (by kernel_rfl))) ?_
  intro W base args ds gs before hS hval0 hW hL
  have hval : ∀ (j : Nat) t v, Tryz.f12.params[j]? = some t → args[j]? = some v → Value.okWide Tryz.prog W .any base t v := hval0
  have hW' := hW
  obtain ⟨p, q, hA0, hV, rfl, _, _⟩ := hW
  have hA : DataW.TrodAll enc Tryz.prog W 0 (fun _ => true) true Tryz.f12.params.toList args.toList ds p := hA0
  rw [Tryz.params12] at hA hval
  rw [MakeChecks.laidMetH_plain _ _ _ (by kernel_rfl)] at hL
  obtain ⟨v0, v1, d0, d1, p0, p1, rfl, rfl, rfl, h0, h1⟩ := trodAll_two hA
  obtain ⟨rfl, rfl⟩ := trodVars_none hV
  obtain ⟨a0, a1, s0, s1, s2, b0, b1, t, rfl, w0, w1, w2, w3, w4, w5, w6, w7, rfl, hsame, _⟩ := open_q (hval 0 55 v0 rfl rfl) h0
  obtain ⟨mo, rfl, rfl, rfl, w8⟩ := ChangeMaps.open_string Tryz.underlying9 (hval 1 9 v1 rfl rfl) h1
  have e1 : Rows.serverNoneSpec.fn H ([d0, .lit (.string mo.data.toList)] ++ []) = { results := [.lit (.bool true)], args := [d0, .lit (.string mo.data.toList)] } := by simp [Rows.serverNoneSpec]
  obtain ⟨a0, rfl, _⟩ := nat_of_wf (.inl rfl) w0
  obtain ⟨a1, rfl, _⟩ := nat_of_wf (.inl rfl) w1
  obtain ⟨s0, rfl, _⟩ := nat_of_wf (.inr rfl) w2
  obtain ⟨s1, rfl, _⟩ := nat_of_wf (.inr rfl) w3
  obtain ⟨s2, rfl, _⟩ := nat_of_wf (.inr rfl) w4
  obtain ⟨b0, rfl, h5⟩ := nat_of_wf (.inr rfl) w5
  obtain ⟨b1, rfl, h6⟩ := nat_of_wf (.inr rfl) w6
  refine (none_calls hL hS h5 h6).mono fun e W' ⟨he, hB⟩ => ?_
  subst he
  refine ⟨_, rfl, _, _, _, [], [], [], hW', ?_, ?_, ?_, hB.frame _, fun h => by cases h⟩
  · rw [e1]; exact trodAll_mk1 (shut_bool Tryz.underlying4 true)
  · rw [e1]; exact trodAll_mk2 (hsame _ _ _ _) (ChangeMaps.shut_string Tryz.underlying9 w8)
  · rw [e1]; rfl
end Go.Proofs.YtnnhijfbdkokkaaGreatDoor
