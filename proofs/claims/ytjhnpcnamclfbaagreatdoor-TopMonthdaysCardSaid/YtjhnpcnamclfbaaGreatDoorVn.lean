/- What a claim's walk asks of its start. TopMonthdays answers true at every input, where the listed variables read as the program lays them: the lifted law. Condition: the row's own. No condition. -/
import Derived.Test.YtjhnpcnamclfbaaGreatDoorVt
import Derived.Test.YtjhnpcnamclfbaaGreatDoorRb
import Derived.Test.YtjhnpcnamclfbaaGreatDoorTie
import Derived.Test.YtjhnpcnamclfbaaGreatDoorCards
import Derived.ProofKit
import Derived.OpenShut
import Derived.LaidMore
import Derived.Lay
import Derived.SevenTiedAt
import Derived.Stop.Joined
import Derived.Carry
/-! What a claim's walk asks of its start. -/
namespace Go.Proofs.YtjhnpcnamclfbaaGreatDoor
open Go Go.Eng Go.ChangeShapes Go.WideShapes Go.ChangeAt Go.RowKit
set_option maxRecDepth 100000

/-- A change's contract, from a start whose variables have their shape. -/
theorem handed_shaped {H : Type} {enc : TypeId × Value → H} {a : Assume} {C : Checked} {os : Os} {f : FuncId} {fn : Func} {s : ChangeSpec} {conds : List PathCond} {apart fresh handsOn again : Bool} {X : World → Array Value → Prop}
    (hX : ∀ (w w' : World) (args : Array Value), w.heap = w'.heap → X w args → X w' args)
    (own : ownKnob C.prog.godebug = none) (started : os.Started) (noInit : C.prog.inits.idxOf? f = none) (hfn : C.prog.funcs[f]? = some fn)
    (witness : ∃ (w : World) (tape : Tape) (i : Input), w.os = os ∧ (w.forCall tape i).Shaped C.prog ∧ i.vars = [] ∧ Input.okWide C.prog (w.forCall tape i) .any w.heap.size f i ∧
      ((s.pre enc C.prog fn conds apart (w.forCall tape i).memory i.args ∧ X (w.forCall tape i).memory i.args) ∧ sizedMet enc C.prog fn (OpenSpec.ofChange s) apart (w.forCall tape i).memory i.args) ∧ a.holds C.prog (lone (Frame.enter C.prog f i.args .normal) [] (w.forCall tape i)))
    (contract : ∀ (W : World) (base : Nat) (args : Array Value) (ds gs : List (DataW H)) (before : List MemPlace), W.ShapedOpen C.prog →
      (∀ (j : Nat) t v, fn.params[j]? = some t → args[j]? = some v → Value.okWide C.prog W .any base t v) →
      DataW.Whole enc C.prog fn.params.toList s.vars apart W args.toList ds gs before → X W args →
      Calls C.prog f args W fun e W' => ∃ v, e = .returned v ∧ s.post enc C.prog fn apart fresh handsOn again W args v W') :
    ReturnsInHanded a C os f .any (fun w args => (s.pre enc C.prog fn conds apart w args ∧ X w args) ∧ sizedMet enc C.prog fn (OpenSpec.ofChange s) apart w args) (s.post enc C.prog fn apart fresh handsOn again) := by
  refine returnsInHanded_of_calls own started noInit witness ?_
  intro w tape i _ hs _ hok hpre _
  obtain ⟨_, _, _, fn', hfn', _, _, _, _, hval⟩ := hok
  have e : fn' = fn := Option.some.inj (hfn'.symm.trans hfn)
  subst e
  obtain ⟨⟨⟨ds, gs, before, hw, _⟩, hx⟩, _⟩ := hpre
  have hw' := DataW.Whole.of_heap (w' := w.forCall tape i) (by rfl) hw
  refine (contract (w.forCall tape i) w.heap.size i.args ds gs before hs hval hw' (hX _ _ _ (by rfl) hx)).mono fun e W' ⟨v, he, hp⟩ => ?_
  subst he
  exact ChangeSpec.post_blind hp

theorem Tryz.own : ownKnob Tryz.prog.godebug = none := by kernel_rfl

theorem nat_of_wf {k : IntKind} {z : Int} (hk : k = .u8 ∨ k = .u32) (h : (Lit.int k z).wf = true) : ∃ n : Nat, z = n ∧ n < 4294967296 := by
  simp only [Lit.wf, Bool.and_eq_true, decide_eq_true_eq] at h
  rcases hk with rfl | rfl
  · have h0 : (0 : Int) ≤ z := by simpa [IntKind.min, IntKind.signed] using h.1
    have h1 : z ≤ 255 := by simpa [IntKind.max, IntKind.signed, IntKind.bits] using h.2
    exact ⟨z.toNat, by omega, by omega⟩
  · have h0 : (0 : Int) ≤ z := by simpa [IntKind.min, IntKind.signed] using h.1
    have h1 : z ≤ 4294967295 := by simpa [IntKind.max, IntKind.signed, IntKind.bits] using h.2
    exact ⟨z.toNat, by omega, by omega⟩

theorem tab_flat : flatD Rows.laid_internal_strconv_uint64pow10 = Lib.pow10Tab.map (AV.int .u64) := by kernel_rfl
/-- The table of powers stands as laid. -/
theorem tabV_laid {W : World} (h : laidMet Tryz.prog Tryz.laid W) (hs : W.ShapedOpen Tryz.prog) : tabV W := by
  have ml : ("internal/strconv.uint64pow10", (Rows.laid_internal_strconv_uint64pow10 : DataW Unit)) ∈ Tryz.laid := by simp [Tryz.laid, Rows.topMonthdaysRow]
  have hg : Tryz.prog.globalNamed "internal/strconv.uint64pow10" = some gPow := by kernel_rfl
  obtain ⟨c, fr, hc, hv⟩ := plain_var (ρ := fun _ => none) (σ := fun _ => .nilIface) h hs ml hg (t := tPow) (by kernel_rfl) 4 (by kernel_rfl) (Nat.le_of_ble_eq_true (by kernel_rfl)) (el := tPow) (by kernel_rfl)
  rw [tab_flat] at hv
  have e := tells_funs (l := Lib.pow10Tab.map (AV.int .u64)) (by rw [List.all_eq_true]; intro a ha; obtain ⟨z, _, rfl⟩ := List.mem_map.1 ha; rfl) hv (ints_rel (ρ := fun _ => none) (σ := fun _ => .nilIface) Lib.pow10Tab)
  unfold tabV Lib.TabIs World.var?
  rw [hg]
  simp only [Option.bind_some, hc]
  congr 1
  apply Array.ext'
  rw [e]
theorem iface_laid {W : World} (h : laidMet Tryz.prog Tryz.laid W) (hs : W.ShapedOpen Tryz.prog) {nm ty : String} {d : DataW Unit} (hm : (nm, DataW.iface ty d) ∈ Tryz.laid) {g t el : Nat} (hg : Tryz.prog.globalNamed nm = some g) (ht : (Tryz.prog.globals[g]?).map (·.type) = some t) (hu : (match Tryz.prog.underlying t with | some (.interface _) => true | _ => false) = true)
    (hlt : g < Tryz.prog.globals.size) (hel : (((begin Tryz.prog (fun _ _ => 0) default).world.heap[g]?).bind Obj.row?).map (·.2) = some el) : ifaceAt g W := by
  obtain ⟨ps, hl, _⟩ := h
  obtain ⟨g', t', cs, fuel, p, h1, h2, h3, h4⟩ := laid_at hl _ hm
  obtain rfl := Option.some.inj (hg.symm.trans h1)
  obtain rfl := Option.some.inj (ht.symm.trans h2)
  obtain ⟨ms, hu⟩ : ∃ ms, Tryz.prog.underlying t = some (.interface ms) := by
    split at hu
    · exact ⟨_, by assumption⟩
    · cases hu
  obtain ⟨⟨zero, el'⟩, hz, he⟩ := Option.map_eq_some_iff.1 hel
  obtain ⟨cs2, hc, _⟩ := hs.1 g zero el' hlt hz
  unfold World.var? at h3
  rw [h1] at h3
  simp only [Option.bind_some, hc, Option.some.injEq] at h3
  subst h3
  have hv : ∃ u v, cs2.toList = [.iface u v] := by
    cases fuel with
    | zero => simp [DataW.trod] at h4
    | succ fuel =>
      unfold DataW.trod at h4
      rw [hu] at h4
      generalize cs2.toList = l at h4 ⊢
      simp only at h4
      split at h4 <;> first | (rename_i hx; cases hx; done) | skip
      all_goals first
        | exact ⟨_, _, rfl⟩
        | (simp at h4; done)
        | (cases h4; done)
  obtain ⟨u, v, e⟩ := hv
  refine ⟨.iface u v, ?_, .inr ⟨u, v, rfl⟩⟩
  rw [cell_at hc, ← Array.getElem?_toList, e]; rfl
theorem errV_laid {W : World} (h : laidMet Tryz.prog Tryz.laid W) (hs : W.ShapedOpen Tryz.prog) : errV W := by
  refine ⟨tabV_laid h hs, ?_, ?_⟩
  · exact iface_laid h hs (nm := "strconv.ErrSyntax") (ty := "*errors.errorString") (d := .ptr (.agg [.lit (.string [105, 110, 118, 97, 108, 105, 100, 32, 115, 121, 110, 116, 97, 120])])) (by simp [Tryz.laid, Rows.topMonthdaysRow, Rows.laid_strconv_ErrSyntax]) (g := 6) (by kernel_rfl) (t := 90) (by kernel_rfl) (by kernel_rfl) (Nat.le_of_ble_eq_true (by kernel_rfl)) (el := 90) (by kernel_rfl)
  · exact iface_laid h hs (nm := "strconv.ErrRange") (ty := "*errors.errorString") (d := .ptr (.agg [.lit (.string [118, 97, 108, 117, 101, 32, 111, 117, 116, 32, 111, 102, 32, 114, 97, 110, 103, 101])])) (by simp [Tryz.laid, Rows.topMonthdaysRow, Rows.laid_strconv_ErrRange]) (g := 7) (by kernel_rfl) (t := 90) (by kernel_rfl) (by kernel_rfl) (Nat.le_of_ble_eq_true (by kernel_rfl)) (el := 90) (by kernel_rfl)

theorem nat8_of_wf {z : Int} (h : (Lit.int .u8 z).wf = true) : ∃ n : Nat, z = n ∧ n < 256 := by
  simp only [Lit.wf, Bool.and_eq_true, decide_eq_true_eq] at h
  have h0 : (0 : Int) ≤ z := by simpa [IntKind.min, IntKind.signed] using h.1
  have h1 : z ≤ 255 := by simpa [IntKind.max, IntKind.signed, IntKind.bits] using h.2
  exact ⟨z.toNat, by omega, by omega⟩
end Go.Proofs.YtjhnpcnamclfbaaGreatDoor

/-! TopMonthdays answers true at every input, where the listed variables read as the program lays them: the lifted law. Condition: the row's own. -/
namespace Go.Proofs.YtjhnpcnamclfbaaGreatDoor
open Go Go.Eng Go.ChangeShapes Go.WideShapes Go.ChangeAt Go.RowKit
set_option maxRecDepth 100000

theorem monthdays_lifted (os : Os) (started : os.Started) (H : Type) (enc : TypeId × Value → H) :
    ReturnsInHanded {} Tryz.checked os 7 .any (fun w args => (Rows.topMonthdaysSpec.pre enc Tryz.prog Tryz.f7 [] false w args ∧ laidMetH Tryz.prog Tryz.laid w) ∧ sizedMet enc Tryz.prog Tryz.f7 (OpenSpec.ofChange Rows.topMonthdaysSpec) false w args)
      (Rows.topMonthdaysSpec.post enc Tryz.prog Tryz.f7 false true false false) := by
  refine handed_shaped (C := Tryz.checked) (X := fun w _ => laidMetH Tryz.prog Tryz.laid w) (fun _ _ _ hh h => h.of_heap hh) Tryz.own started (by kernel_rfl) Tryz.func7
    (ChangeSpec.witness_shaped (enc := enc) (C := Tryz.checked) (os := os) (X := fun w _ => laidMetH Tryz.prog Tryz.laid w) false (World.laidAll Tryz.prog os Tryz.laid) #[.int .u8 0, .int .u8 0, .int .u32 0] 8 (World.laidAll_os _ _ _)
      (World.shaped_of_ZipB (by kernel_rfl) (by kernel_rfl)) (by kernel_rfl) (by kernel_rfl) (by kernel_rfl)
      (by rw [MakeChecks.laidMetH_plain _ _ _ (by kernel_rfl)]; exact laidMet_laidAll _ (by kernel_rfl) (by kernel_rfl))) ?_
  intro W base args ds gs before hS hval0 hW hL
  have hval : ∀ (j : Nat) t v, Tryz.f7.params[j]? = some t → args[j]? = some v → Value.okWide Tryz.prog W .any base t v := hval0
  have hW' := hW
  obtain ⟨p, q, hA0, hV, rfl, _, _⟩ := hW
  have hA : DataW.TrodAll enc Tryz.prog W 0 (fun _ => true) true Tryz.f7.params.toList args.toList ds p := hA0
  rw [Tryz.params7] at hA hval
  rw [MakeChecks.laidMetH_plain _ _ _ (by kernel_rfl)] at hL
  obtain ⟨v0, v1, v2, d0, d1, d2, p0, p1, p2, rfl, rfl, rfl, h0, h1, h2⟩ := trodAll_three hA
  obtain ⟨rfl, rfl⟩ := trodVars_none hV
  obtain ⟨n, rfl, rfl, rfl, w0⟩ := open_int Tryz.underlying5 (hval 0 5 v0 rfl rfl) h0
  obtain ⟨k, rfl, rfl, rfl, w1⟩ := open_int Tryz.underlying5 (hval 1 5 v1 rfl rfl) h1
  obtain ⟨st, rfl, rfl, rfl, w2⟩ := open_int Tryz.underlying22 (hval 2 22 v2 rfl rfl) h2
  have e1 : Rows.topMonthdaysSpec.fn H ([.lit (.int .u8 n), .lit (.int .u8 k), .lit (.int .u32 st)] ++ []) = { results := [.lit (.bool true)], args := [.lit (.int .u8 n), .lit (.int .u8 k), .lit (.int .u32 st)] } := by simp [Rows.topMonthdaysSpec]
  obtain ⟨n, rfl, hn⟩ := nat8_of_wf w0
  obtain ⟨k, rfl, hk⟩ := nat8_of_wf w1
  obtain ⟨st, rfl, hst⟩ := nat_of_wf (.inr rfl) w2
  refine (monthdays_calls (vars_laid hL hS) (errV_laid hL hS) n k st hn hk hst).mono fun e W' ⟨he, hB⟩ => ?_
  subst he
  refine ⟨_, rfl, _, _, _, [], [], [], hW', ?_, ?_, ?_, hB.frame _, fun h => by cases h⟩
  · rw [e1]; exact trodAll_mk1 (shut_bool Tryz.underlying4 true)
  · rw [e1]; exact trodAll_mk3 (shut_int Tryz.underlying5 w0) (shut_int Tryz.underlying5 w1) (shut_int Tryz.underlying22 w2)
  · rw [e1]; rfl
end Go.Proofs.YtjhnpcnamclfbaaGreatDoor
