/- WireRest answers true at every input, where the listed variables read as the program lays them; its arguments read as they did: the walk. Condition: the row's own. -/
import Derived.Test.YtgbflpajaihmmaaGreatDoorQw
import Derived.Test.YtgbflpajaihmmaaGreatDoorSb
namespace Go.Proofs.YtgbflpajaihmmaaGreatDoor
open Go Go.Eng Go.ChangeShapes Go.WideShapes Go.ChangeAt Go.RowKit
set_option maxRecDepth 100000

/-- Whatever the request and what is behind it, WireRest hands back true. -/
theorem rest_calls {W : World} (hL : laidMet Tryz.prog Tryz.laid W) (hS : W.ShapedOpen Tryz.prog) {a0 a1 s0 s1 s2 b0 b1 : Nat} (h5 : b0 < 4294967296) (h6 : b1 < 4294967296) {t mo : ByteArray} (hsz : t.data.toList.length + mo.data.toList.length < 9223372036854775808) :
    Calls Tryz.prog 11 #[.agg #[.int .u8 a0, .int .u8 a1, .int .u32 s0, .int .u32 s1, .int .u32 s2, .int .u32 b0, .int .u32 b1, .string t], .string mo] W (fun e W' => e = .returned (.bool true) ∧ Below W.heap.size W W') := by
  obtain ⟨m, hm⟩ := vars_laid hL hS
  have hV := tabV_laid hL hS
  have dts : ∀ n : Nat, ∃ D : List UInt8, ∃ y mm d, Dated (1 + n % 3652059) y mm d ∧ D = dayT y mm d := fun n => by
    obtain ⟨y, mm, d, h⟩ := dated (1 + n % 3652059) (by omega) (by have := Nat.mod_lt n (show 0 < 3652059 by omega); omega)
    exact ⟨_, y, mm, d, h, rfl⟩
  obtain ⟨D0, hD0⟩ := dts s0
  obtain ⟨D1, hD1⟩ := dts s1
  obtain ⟨D2, hD2⟩ := dts s2
  let c : Ctx := ⟨a0, a1, fun j => match j with | 0 => s0 | 1 => s1 | _ => s2, fun j => match j with | 0 => b0 | _ => b1, fun j => match j with | 0 => D0 | 1 => D1 | _ => D2, t.data.toList, mo.data.toList⟩
  obtain ⟨ρ, hR⟩ := hm (withM c.sg m) (withM_kM _ _)
  have row : PRow Tryz.prog gl (withM c.sg m) 11 [qA, .sym 8] (.bool true) tabV := by
    by_cases hl : t.data.toList.length + mo.data.toList.length ≤ 500
    · have hc : c.OK := ⟨fun j hj => by
        match j, hj with
        | 0, _ => exact hD0
        | 1, _ => exact hD1
        | 2, _ => exact hD2, fun j hj => by
        match j, hj with
        | 0, _ => exact h5
        | 1, _ => exact h6, by show t.data.toList.length ≤ 500; omega⟩
      exact rest_row hc (by show mo.data.toList.length ≤ 500; omega) hl
    · exact rest_row_X (c := c) (by show 500 < t.data.toList.length + mo.data.toList.length; omega) hsz
  refine (row W _ (tabV_hold W hV) ⟨ρ, hR⟩ ⟨_, _, rfl, ⟨_, rfl, _, _, rfl, ⟨?_, rfl⟩, _, _, rfl, ⟨?_, rfl⟩, _, _, rfl, ⟨?_, rfl⟩, _, _, rfl, ⟨?_, rfl⟩, _, _, rfl, ⟨?_, rfl⟩, _, _, rfl, ⟨?_, rfl⟩, _, _, rfl, ⟨?_, rfl⟩, _, _, rfl, ⟨?_, rfl⟩, rfl⟩, _, _, rfl, ⟨?_, rfl⟩, rfl⟩).mono fun e W' ⟨u, he, hu, hB⟩ => ⟨by rw [he]; exact congrArg Ending.returned hu, hB⟩
  · rw [Ctx.sg_lt (by omega)]; rfl
  · rw [Ctx.sg_lt (by omega)]; rfl
  · rw [Ctx.sg_lt (by omega)]; rfl
  · rw [Ctx.sg_lt (by omega)]; rfl
  · rw [Ctx.sg_lt (by omega)]; rfl
  · rw [Ctx.sg_lt (by omega)]; rfl
  · rw [Ctx.sg_lt (by omega)]; rfl
  · rw [Ctx.sg7]; exact (strV_eta t).symm
  · rw [Ctx.sg8]; exact (strV_eta mo).symm

/-- A change's contract, from a start whose variables have their shape and whose texts a machine holds. -/
theorem handed_sized {H : Type} {enc : TypeId × Value → H} {a : Assume} {C : Checked} {os : Os} {f : FuncId} {fn : Func} {s : ChangeSpec} {conds : List PathCond} {apart fresh handsOn again : Bool} {X : World → Array Value → Prop}
    (hX : ∀ (w w' : World) (args : Array Value), w.heap = w'.heap → X w args → X w' args)
    (own : ownKnob C.prog.godebug = none) (started : os.Started) (noInit : C.prog.inits.idxOf? f = none) (hfn : C.prog.funcs[f]? = some fn)
    (witness : ∃ (w : World) (tape : Tape) (i : Input), w.os = os ∧ (w.forCall tape i).Shaped C.prog ∧ i.vars = [] ∧ Input.okWide C.prog (w.forCall tape i) .any w.heap.size f i ∧
      ((s.pre enc C.prog fn conds apart (w.forCall tape i).memory i.args ∧ X (w.forCall tape i).memory i.args) ∧ sizedMet enc C.prog fn (OpenSpec.ofChange s) apart (w.forCall tape i).memory i.args) ∧ a.holds C.prog (lone (Frame.enter C.prog f i.args .normal) [] (w.forCall tape i)))
    (contract : ∀ (W : World) (base : Nat) (args : Array Value) (ds gs : List (DataW H)) (before : List MemPlace), W.ShapedOpen C.prog →
      (∀ (j : Nat) t v, fn.params[j]? = some t → args[j]? = some v → Value.okWide C.prog W .any base t v) →
      DataW.Whole enc C.prog fn.params.toList s.vars apart W args.toList ds gs before → X W args → (∃ W0, sizedMet enc C.prog fn (OpenSpec.ofChange s) apart W0 args) →
      Calls C.prog f args W fun e W' => ∃ v, e = .returned v ∧ s.post enc C.prog fn apart fresh handsOn again W args v W') :
    ReturnsInHanded a C os f .any (fun w args => (s.pre enc C.prog fn conds apart w args ∧ X w args) ∧ sizedMet enc C.prog fn (OpenSpec.ofChange s) apart w args) (s.post enc C.prog fn apart fresh handsOn again) := by
  refine returnsInHanded_of_calls own started noInit witness ?_
  intro w tape i _ hs _ hok hpre _
  obtain ⟨_, _, _, fn', hfn', _, _, _, _, hval⟩ := hok
  have e : fn' = fn := Option.some.inj (hfn'.symm.trans hfn)
  subst e
  obtain ⟨⟨⟨ds, gs, before, hw, _⟩, hx⟩, hsz⟩ := hpre
  have hw' := DataW.Whole.of_heap (w' := w.forCall tape i) (by rfl) hw
  refine (contract (w.forCall tape i) w.heap.size i.args ds gs before hs hval hw' (hX _ _ _ (by rfl) hx) ⟨_, hsz⟩).mono fun e W' ⟨v, he, hp⟩ => ?_
  subst he
  exact ChangeSpec.post_blind hp

theorem rest_lifted (os : Os) (started : os.Started) (H : Type) (enc : TypeId × Value → H) :
    ReturnsInHanded {} Tryz.checked os 11 .any (fun w args => (Rows.wireRestSpec.pre enc Tryz.prog Tryz.f11 [] false w args ∧ laidMetH Tryz.prog Tryz.laid w) ∧ sizedMet enc Tryz.prog Tryz.f11 (OpenSpec.ofChange Rows.wireRestSpec) false w args)
      (Rows.wireRestSpec.post enc Tryz.prog Tryz.f11 false true false false) := by
  refine handed_sized (C := Tryz.checked) (X := fun w _ => laidMetH Tryz.prog Tryz.laid w) (fun _ _ _ hh h => h.of_heap hh) Tryz.own started (by kernel_rfl) Tryz.func11
    (ChangeSpec.witness_shaped (enc := enc) (C := Tryz.checked) (os := os) (X := fun w _ => laidMetH Tryz.prog Tryz.laid w) false (World.laidAll Tryz.prog os Tryz.laid) #[.agg #[.int .u8 0, .int .u8 0, .int .u32 0, .int .u32 0, .int .u32 0, .int .u32 0, .int .u32 0, .string ⟨#[]⟩], .string ⟨#[]⟩] 8 (World.laidAll_os _ _ _)
      (World.shaped_of_ZipB (by kernel_rfl) (by kernel_rfl)) (by kernel_rfl) (by kernel_rfl) (by kernel_rfl)
      (by rw [MakeChecks.laidMetH_plain _ _ _ (by kernel_rfl)]; exact laidMet_laidAll _ (by kernel_rfl) (by kernel_rfl))) ?_
  intro W base args ds gs before hS hval0 hW hL hZ
  have hval : ∀ (j : Nat) t v, Tryz.f11.params[j]? = some t → args[j]? = some v → Value.okWide Tryz.prog W .any base t v := hval0
  have hW' := hW
  obtain ⟨p, q, hA0, hV, rfl, _, _⟩ := hW
  have hA : DataW.TrodAll enc Tryz.prog W 0 (fun _ => true) true Tryz.f11.params.toList args.toList ds p := hA0
  rw [Tryz.params11] at hA hval
  rw [MakeChecks.laidMetH_plain _ _ _ (by kernel_rfl)] at hL
  obtain ⟨v0, v1, d0, d1, p0, p1, rfl, rfl, rfl, h0, h1⟩ := trodAll_two hA
  obtain ⟨rfl, rfl⟩ := trodVars_none hV
  obtain ⟨a0, a1, s0, s1, s2, b0, b1, t, rfl, w0, w1, w2, w3, w4, w5, w6, w7, rfl, hsame, _⟩ := open_q (hval 0 55 v0 rfl rfl) h0
  obtain ⟨mo, rfl, rfl, rfl, w8⟩ := ChangeMaps.open_string Tryz.underlying9 (hval 1 9 v1 rfl rfl) h1
  have hsz : t.data.toList.length + mo.data.toList.length < 9223372036854775808 := by
    obtain ⟨W0, _, ds, gs, bf, hWh, hwt⟩ := hZ
    obtain ⟨p', q', hA1, hV1, _⟩ := hWh
    have hA1 : DataW.TrodAll enc Tryz.prog W0 0 (fun _ => true) true Tryz.f11.params.toList _ ds p' := hA1
    rw [Tryz.params11] at hA1
    obtain ⟨v0, v1, d0, d1, p0, p1, ea, rfl, _, h0, h1⟩ := trodAll_two hA1
    obtain ⟨rfl, rfl⟩ := trodVars_none hV1
    have ea0 : v0 = .agg #[.int .u8 a0, .int .u8 a1, .int .u32 s0, .int .u32 s1, .int .u32 s2, .int .u32 b0, .int .u32 b1, .string t] := (congrArg (fun a : Array Value => a[0]!) ea).symm
    have ea1 : v1 = .string mo := (congrArg (fun a : Array Value => a[1]!) ea).symm
    subst ea0
    subst ea1
    obtain ⟨_, _, _, _, _, _, _, t', et, _, _, _, _, _, _, _, _, _, _, ed⟩ := open_q (hval 0 55 _ rfl rfl) h0
    obtain ⟨n1, h1⟩ := h1
    obtain ⟨mo', em, _, ed1, _⟩ := leaf_str (W' := W0) (b' := 0) (sp' := fun _ => true) (hd' := true) Tryz.underlying9 h1
    have et' : t = t' := by
      have := congrArg (fun v : Value => match v with | .agg c => c[7]! | _ => .nilIface) et
      exact Value.string.inj this
    have em' : mo = mo' := by simpa [Value.cells] using em
    subst et'
    subst em'
    subst ed
    cases ed1
    rw [Tryz.params11] at hwt
    have hwt : (DataW.weightsEach Tryz.prog [55, 9] [_, .lit (.string mo.data.toList)]).all (· ≤ reachBytes) = true := hwt
    simp only [DataW.weightsEach, DataW.weights, Tryz.underlying55, List.map_cons, List.map_nil, List.nil_append, List.append_nil, List.cons_append, List.all_cons, List.all_nil, Bool.and_true, Bool.and_eq_true, decide_eq_true_eq] at hwt
    have : reachBytes = 140737488351232 := rfl
    omega
  have e1 : Rows.wireRestSpec.fn H ([d0, .lit (.string mo.data.toList)] ++ []) = { results := [.lit (.bool true)], args := [d0, .lit (.string mo.data.toList)] } := by simp [Rows.wireRestSpec]
  obtain ⟨a0, rfl, _⟩ := nat_of_wf (.inl rfl) w0
  obtain ⟨a1, rfl, _⟩ := nat_of_wf (.inl rfl) w1
  obtain ⟨s0, rfl, _⟩ := nat_of_wf (.inr rfl) w2
  obtain ⟨s1, rfl, _⟩ := nat_of_wf (.inr rfl) w3
  obtain ⟨s2, rfl, _⟩ := nat_of_wf (.inr rfl) w4
  obtain ⟨b0, rfl, h5⟩ := nat_of_wf (.inr rfl) w5
  obtain ⟨b1, rfl, h6⟩ := nat_of_wf (.inr rfl) w6
  refine (rest_calls hL hS h5 h6 hsz).mono fun e W' ⟨he, hB⟩ => ?_
  subst he
  refine ⟨_, rfl, _, _, _, [], [], [], hW', ?_, ?_, ?_, hB.frame _, fun h => by cases h⟩
  · rw [e1]; exact trodAll_mk1 (shut_bool Tryz.underlying4 true)
  · rw [e1]; exact trodAll_mk2 (hsame _ _ _ _) (ChangeMaps.shut_string Tryz.underlying9 w8)
  · rw [e1]; rfl
end Go.Proofs.YtgbflpajaihmmaaGreatDoor
