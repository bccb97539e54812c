/- WireDecodes answers true at every input, where the listed variables read as the program lays them: the walk. Condition: the row's own. -/
import Derived.Test.YtnnhijfbdkokkaaGreatDoorWk
import Derived.Test.YtnnhijfbdkokkaaGreatDoorRk20
import Derived.Test.YtnnhijfbdkokkaaGreatDoorQa
namespace Go.Proofs.YtnnhijfbdkokkaaGreatDoor
open Go Go.Eng Go.ChangeShapes Go.WideShapes Go.ChangeAt Go.RowKit
set_option maxRecDepth 100000
noncomputable section

/-! ### Two answers are the same -/
def eqI (i : Nat) : List OR := [⟨11, [.sym i, .sym i], .bool true⟩, ⟨12, [.sym i, .sym i], .bool false⟩]
def eqL : List Nat := [2, 3, 4, 5, 6, 11, 20, 21, 22, 26]
def eqO : List OR := List.rec (motive := fun _ => List OR) [] (fun i _ l => eqI i ++ l) eqL
theorem eqO_ok {E : Env} {s name : List UInt8} {fs : List (List UInt8)} {t : List UInt8} {m : Int} : ∀ r ∈ eqO, RowOK E 9 (withM (sgD s name fs t) m) r := by
  have nI : ∀ {i : Nat} {z : Int}, conc (withM (sgD s name fs t) m) (.sym i) = .int .i64 z → ∀ r ∈ eqI i, RowOK E 9 (withM (sgD s name fs t) m) r := by
    intro i z h r hr
    simp only [eqI, List.mem_cons, List.mem_nil_iff, or_false] at hr
    rcases hr with rfl | rfl
    · exact RowOK.cmp .i64 (x := z) (y := z) h h (.inl ⟨rfl, by simp⟩)
    · exact RowOK.cmp .i64 (x := z) (y := z) h h (.inr (.inl ⟨rfl, by simp⟩))
  have nS : ∀ {i : Nat} {x : List Nat}, conc (withM (sgD s name fs t) m) (.sym i) = .str x → ∀ r ∈ eqI i, RowOK E 9 (withM (sgD s name fs t) m) r := by
    intro i x h r hr
    simp only [eqI, List.mem_cons, List.mem_nil_iff, or_false] at hr
    rcases hr with rfl | rfl
    · exact RowOK.seq (p := x) (q := x) h h (.inl ⟨rfl, by simp⟩)
    · exact RowOK.seq (p := x) (q := x) h h (.inr ⟨rfl, by simp⟩)
  intro r hr
  have hr : r ∈ eqI 2 ++ (eqI 3 ++ (eqI 4 ++ (eqI 5 ++ (eqI 6 ++ (eqI 11 ++ (eqI 20 ++ (eqI 21 ++ (eqI 22 ++ (eqI 26 ++ []))))))))) := hr
  rcases List.mem_append.1 hr with hr | hr
  · exact nI (z := pN (fj fs 1)) rfl r hr
  rcases List.mem_append.1 hr with hr | hr
  · exact nI (z := pN (fj fs 2)) rfl r hr
  rcases List.mem_append.1 hr with hr | hr
  · exact nI (z := pN (fj fs 3)) rfl r hr
  rcases List.mem_append.1 hr with hr | hr
  · exact nI (z := atoiN (fj fs 4)) rfl r hr
  rcases List.mem_append.1 hr with hr | hr
  · exact nI (z := atoiN (fj fs 5)) rfl r hr
  rcases List.mem_append.1 hr with hr | hr
  · exact nS (x := nats (fj fs 0)) rfl r hr
  rcases List.mem_append.1 hr with hr | hr
  · exact nS (x := nats (tailS (fs.drop 0) t)) rfl r hr
  rcases List.mem_append.1 hr with hr | hr
  · exact nS (x := nats (tailS (fs.drop 1) t)) rfl r hr
  rcases List.mem_append.1 hr with hr | hr
  · exact nS (x := nats (tailS (fs.drop 2) t)) rfl r hr
  rcases List.mem_append.1 hr with hr | hr
  · exact nS (x := nats (tailS (fs.drop 6) t)) rfl r hr
  · cases hr
def decK (q : Nat) : List KR := [⟨fDecode, [.sym 0], pick formI imgs5 q⟩, ⟨fDecodeL, [.sym 0], pick formI imgs5 q⟩]
def tabs19 : List (FuncId × Img) := [(fAwake19, yes)]
theorem tabs19_ok {E : Env} (hP : E.P = Tryz.prog) (σ : Nat → Value) : MemoOK { E with memo := memoI gl tabs19 } σ := by
  refine MemoOK.ofI ?_ _
  rw [hP]
  intro x hx
  simp only [tabs19, List.mem_cons, List.mem_nil_iff, or_false] at hx
  rcases hx with rfl
  exact know19
def five5 : List Nat := [0, 1, 2, 3, 4]
theorem mem5 {q : Nat} (hq : q < 5) : q ∈ five5 := by
  have : ∀ q, q < 5 → q ∈ five5 := by decide
  exact this q hq

/-! ### The runs -/
def orS (b : Bool) : List OR := [⟨20, [.sym 0], .sym 8⟩, ⟨15, [.sym 8, .int .i64 2000], .bool b⟩]
def EV5 (o : List OR) (k : List KR) : Env := Ee.askM 9 o [] (memoOr (memoI gl tabs19) (memoKH gl k))
theorem runV1 : allB (fun q => rowRunG (EV5 (orS false ++ eqO) (decK q)) gl fWireDecodes [.sym 0] 3000 (.bool true)) five5 = true := by kernel_rfl
theorem runV0 : rowRunG (EV5 (orS true) []) gl fWireDecodes [.sym 0] 3000 (.bool true) = true := by kernel_rfl
theorem row5 {σ : Nat → Value} {o : List OR} {k : List KR} {f : FuncId} {args : List AV} {n : Nat} {v : AV} (run : rowRunG (EV5 o k) gl f args n v = true) (ho : ∀ E : Env, E.ty = E0.ty → ∀ r ∈ o, RowOK E 9 σ r) (hk : ∀ r ∈ k, KRow Tryz.prog gl σ r.f r.args r.img errV) : PRow Tryz.prog gl σ f args v errV :=
  PRow.ofGr (E := EV5 o k) (EnvS.askM envEe (ho _ rfl) (fun r hr => by cases hr)) (MemoOK.or (E := EV5 o k) (tabs19_ok (E := EV5 o k) rfl _) (memoKH_ok (E := EV5 o k) rfl hk)) run
theorem orS_ok {E : Env} (ht : E.ty = E0.ty) {s name : List UInt8} {fs : List (List UInt8)} {t : List UInt8} {m : Int} {b : Bool} (hb : b = decide (2000 < s.length)) : ∀ r ∈ orS b, RowOK E 9 (withM (sgD s name fs t) m) r := by
  intro r hr
  simp only [orS, List.mem_cons, List.mem_nil_iff, or_false] at hr
  rcases hr with rfl | rfl
  · exact RowOK.len (typ9 ht) (x := nats s) rfl (by rw [nats_len]; rfl)
  · exact RowOK.cmp .i64 (x := ((s.length : Nat) : Int)) (y := 2000) rfl rfl (.inr (.inr (.inr (.inr (.inl ⟨rfl, by rw [hb, decide_eq_decide]; omega⟩)))))
theorem decodes_row (s : List UInt8) (m : Int) : ∃ (name : List UInt8) (fs : List (List UInt8)) (t : List UInt8), PRow Tryz.prog gl (withM (sgD s name fs t) m) fWireDecodes [.sym 0] (.bool true) errV := by
  by_cases hl : 2000 < s.length
  · exact ⟨[], [], [], row5 runV0 (fun E ht => orS_ok ht (decide_eq_true hl).symm) (fun r hr => by cases hr)⟩
  · obtain ⟨name, fs, t, q, hq, h⟩ := dec_both s (by omega)
    refine ⟨name, fs, t, row5 (allB_spec runV1 q (mem5 hq)) (fun E ht r hr => ?_) fun r hr => ?_⟩
    · rcases List.mem_append.1 hr with hr | hr
      · exact orS_ok ht (decide_eq_false hl).symm r hr
      · exact eqO_ok r hr
    · simp only [decK, List.mem_cons, List.mem_nil_iff, or_false] at hr
      rcases hr with rfl | rfl
      · exact (h m).1
      · exact (h m).2
end

/-! ### The errors' variables are laid -/
theorem iface_laid {W : World} (h : laidMet Tryz.prog Tryz.laid W) (hs : W.ShapedOpen Tryz.prog) {nm ty : String} {d : DataW Unit} (hm : (nm, DataW.iface ty d) ∈ Tryz.laid) {g t el : Nat} (hg : Tryz.prog.globalNamed nm = some g) (ht : (Tryz.prog.globals[g]?).map (·.type) = some t) (hu : (match Tryz.prog.underlying t with | some (.interface _) => true | _ => false) = true)
    (hlt : g < Tryz.prog.globals.size) (hel : (((begin Tryz.prog (fun _ _ => 0) default).world.heap[g]?).bind Obj.row?).map (·.2) = some el) : ifaceAt g W := by
  obtain ⟨ps, hl, _⟩ := h
  obtain ⟨g', t', cs, fuel, p, h1, h2, h3, h4⟩ := laid_at hl _ hm
  obtain rfl := Option.some.inj (hg.symm.trans h1)
  obtain rfl := Option.some.inj (ht.symm.trans h2)
  obtain ⟨ms, hu⟩ : ∃ ms, Tryz.prog.underlying t = some (.interface ms) := by
    split at hu
    · exact ⟨_, by assumption⟩
    · cases hu
  obtain ⟨⟨zero, el'⟩, hz, he⟩ := Option.map_eq_some_iff.1 hel
  obtain ⟨cs2, hc, _⟩ := hs.1 g zero el' hlt hz
  unfold World.var? at h3
  rw [h1] at h3
  simp only [Option.bind_some, hc, Option.some.injEq] at h3
  subst h3
  have hv : ∃ u v, cs2.toList = [.iface u v] := by
    cases fuel with
    | zero => simp [DataW.trod] at h4
    | succ fuel =>
      unfold DataW.trod at h4
      rw [hu] at h4
      generalize cs2.toList = l at h4 ⊢
      simp only at h4
      split at h4 <;> first | (rename_i hx; cases hx; done) | skip
      all_goals first
        | exact ⟨_, _, rfl⟩
        | (simp at h4; done)
        | (cases h4; done)
  obtain ⟨u, v, e⟩ := hv
  refine ⟨.iface u v, ?_, .inr ⟨u, v, rfl⟩⟩
  rw [cell_at hc, ← Array.getElem?_toList, e]; rfl
theorem errV_laid {W : World} (h : laidMet Tryz.prog Tryz.laid W) (hs : W.ShapedOpen Tryz.prog) : errV W := by
  refine ⟨tabV_laid h hs, ?_, ?_⟩
  · exact iface_laid h hs (nm := "strconv.ErrSyntax") (ty := "*errors.errorString") (d := .ptr (.agg [.lit (.string [105, 110, 118, 97, 108, 105, 100, 32, 115, 121, 110, 116, 97, 120])])) (by simp [Tryz.laid, Rows.serverNoneRow, Rows.laid_strconv_ErrSyntax]) (g := 2) (by kernel_rfl) (t := 38) (by kernel_rfl) (by kernel_rfl) (Nat.le_of_ble_eq_true (by kernel_rfl)) (el := 38) (by kernel_rfl)
  · exact iface_laid h hs (nm := "strconv.ErrRange") (ty := "*errors.errorString") (d := .ptr (.agg [.lit (.string [118, 97, 108, 117, 101, 32, 111, 117, 116, 32, 111, 102, 32, 114, 97, 110, 103, 101])])) (by simp [Tryz.laid, Rows.serverNoneRow, Rows.laid_strconv_ErrRange]) (g := 3) (by kernel_rfl) (t := 38) (by kernel_rfl) (by kernel_rfl) (Nat.le_of_ble_eq_true (by kernel_rfl)) (el := 38) (by kernel_rfl)

/-- Whatever the bytes, WireDecodes hands back true. -/
theorem decodes_calls {W : World} (hL : laidMet Tryz.prog Tryz.laid W) (hS : W.ShapedOpen Tryz.prog) {t : ByteArray} :
    Calls Tryz.prog fWireDecodes #[.string t] W (fun e W' => e = .returned (.bool true) ∧ Below W.heap.size W W') := by
  obtain ⟨m, hm⟩ := vars_laid hL hS
  have hV := errV_laid hL hS
  obtain ⟨name, fs, tt, row⟩ := decodes_row t.data.toList m
  obtain ⟨ρ, hR⟩ := hm (withM (sgD t.data.toList name fs tt) m) (withM_kM _ _)
  refine (row W _ (errV_hold W hV) ⟨ρ, hR⟩ ⟨_, _, rfl, ⟨?_, rfl⟩, rfl⟩).mono fun e W' ⟨u, he, hu, hB⟩ => ⟨by rw [he]; exact congrArg Ending.returned hu, hB⟩
  exact (strV_eta t).symm

theorem decodes_lifted (os : Os) (started : os.Started) (H : Type) (enc : TypeId × Value → H) :
    ReturnsInHanded {} Tryz.checked os 8 .any (fun w args => (Rows.wireDecodesSpec.pre enc Tryz.prog Tryz.f8 [] false w args ∧ laidMetH Tryz.prog Tryz.laid w) ∧ sizedMet enc Tryz.prog Tryz.f8 (OpenSpec.ofChange Rows.wireDecodesSpec) false w args)
      (Rows.wireDecodesSpec.post enc Tryz.prog Tryz.f8 false true false false) := by
  refine handed_shaped (C := Tryz.checked) (X := fun w _ => laidMetH Tryz.prog Tryz.laid w) (fun _ _ _ hh h => h.of_heap hh) Tryz.own started (by kernel_rfl) Tryz.func8
    (ChangeSpec.witness_shaped (enc := enc) (C := Tryz.checked) (os := os) (X := fun w _ => laidMetH Tryz.prog Tryz.laid w) false (World.laidAll Tryz.prog os Tryz.laid) #[.string ⟨#[]⟩] 8 (World.laidAll_os _ _ _)
      (World.shaped_of_ZipB (by kernel_rfl) (by kernel_rfl)) (by kernel_rfl) (by kernel_rfl) (by kernel_rfl)
      (by rw [MakeChecks.laidMetH_plain _ _ _ (by kernel_rfl)]; exact laidMet_laidAll _ (by kernel_rfl) (by kernel_rfl))) ?_
  intro W base args ds gs before hS hval0 hW hL
  have hval : ∀ (j : Nat) t v, Tryz.f8.params[j]? = some t → args[j]? = some v → Value.okWide Tryz.prog W .any base t v := hval0
  have hW' := hW
  obtain ⟨p, q, hA0, hV, rfl, _, _⟩ := hW
  have hA : DataW.TrodAll enc Tryz.prog W 0 (fun _ => true) true Tryz.f8.params.toList args.toList ds p := hA0
  rw [Tryz.params8] at hA hval
  rw [MakeChecks.laidMetH_plain _ _ _ (by kernel_rfl)] at hL
  obtain ⟨v0, d0, rfl, rfl, h0⟩ := trodAll_one hA
  obtain ⟨rfl, rfl⟩ := trodVars_none hV
  obtain ⟨mo, rfl, rfl, rfl, w8⟩ := ChangeMaps.open_string Tryz.underlying9 (hval 0 9 v0 rfl rfl) h0
  have e1 : Rows.wireDecodesSpec.fn H ([.lit (.string mo.data.toList)] ++ []) = { results := [.lit (.bool true)], args := [.lit (.string mo.data.toList)] } := by simp [Rows.wireDecodesSpec]
  refine (decodes_calls hL hS).mono fun e W' ⟨he, hB⟩ => ?_
  subst he
  refine ⟨_, rfl, _, _, _, [], [], [], hW', ?_, ?_, ?_, hB.frame _, fun h => by cases h⟩
  · rw [e1]; exact trodAll_mk1 (shut_bool Tryz.underlying4 true)
  · rw [e1]; exact trodAll_mk1 (ChangeMaps.shut_string Tryz.underlying9 w8)
  · rw [e1]; rfl
end Go.Proofs.YtnnhijfbdkokkaaGreatDoor
