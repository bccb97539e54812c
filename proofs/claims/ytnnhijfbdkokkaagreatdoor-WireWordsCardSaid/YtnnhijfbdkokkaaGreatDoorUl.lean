/- What laws over both Decodes share: two answers are the same; the errors' variables are laid. Condition: the row's own. -/
import Derived.Test.YtnnhijfbdkokkaaGreatDoorUk
import Derived.Test.YtnnhijfbdkokkaaGreatDoorRk20
import Derived.Test.YtnnhijfbdkokkaaGreatDoorQa
namespace Go.Proofs.YtnnhijfbdkokkaaGreatDoor
open Go Go.Eng Go.ChangeShapes Go.WideShapes Go.ChangeAt Go.RowKit
set_option maxRecDepth 100000
noncomputable section

/-! ### Two answers are the same -/
def eqI (i : Nat) : List OR := [⟨11, [.sym i, .sym i], .bool true⟩, ⟨12, [.sym i, .sym i], .bool false⟩]
def eqL : List Nat := [2, 3, 4, 5, 6, 11, 20, 21, 22, 26]
def eqO : List OR := List.rec (motive := fun _ => List OR) [] (fun i _ l => eqI i ++ l) eqL
theorem eqO_ok {E : Env} {zz : Nat → Value} {s name : List UInt8} {fs : List (List UInt8)} {t : List UInt8} {m : Int} : ∀ r ∈ eqO, RowOK E 9 (withM (sgD zz s name fs t) m) r := by
  have nI : ∀ {i : Nat} {z : Int}, conc (withM (sgD zz s name fs t) m) (.sym i) = .int .i64 z → ∀ r ∈ eqI i, RowOK E 9 (withM (sgD zz s name fs t) m) r := by
    intro i z h r hr
    simp only [eqI, List.mem_cons, List.mem_nil_iff, or_false] at hr
    rcases hr with rfl | rfl
    · exact RowOK.cmp .i64 (x := z) (y := z) h h (.inl ⟨rfl, by simp⟩)
    · exact RowOK.cmp .i64 (x := z) (y := z) h h (.inr (.inl ⟨rfl, by simp⟩))
  have nS : ∀ {i : Nat} {x : List Nat}, conc (withM (sgD zz s name fs t) m) (.sym i) = .str x → ∀ r ∈ eqI i, RowOK E 9 (withM (sgD zz s name fs t) m) r := by
    intro i x h r hr
    simp only [eqI, List.mem_cons, List.mem_nil_iff, or_false] at hr
    rcases hr with rfl | rfl
    · exact RowOK.seq (p := x) (q := x) h h (.inl ⟨rfl, by simp⟩)
    · exact RowOK.seq (p := x) (q := x) h h (.inr ⟨rfl, by simp⟩)
  intro r hr
  have hr : r ∈ eqI 2 ++ (eqI 3 ++ (eqI 4 ++ (eqI 5 ++ (eqI 6 ++ (eqI 11 ++ (eqI 20 ++ (eqI 21 ++ (eqI 22 ++ (eqI 26 ++ []))))))))) := hr
  rcases List.mem_append.1 hr with hr | hr
  · exact nI (z := pN (fj fs 1)) rfl r hr
  rcases List.mem_append.1 hr with hr | hr
  · exact nI (z := pN (fj fs 2)) rfl r hr
  rcases List.mem_append.1 hr with hr | hr
  · exact nI (z := pN (fj fs 3)) rfl r hr
  rcases List.mem_append.1 hr with hr | hr
  · exact nI (z := atoiN (fj fs 4)) rfl r hr
  rcases List.mem_append.1 hr with hr | hr
  · exact nI (z := atoiN (fj fs 5)) rfl r hr
  rcases List.mem_append.1 hr with hr | hr
  · exact nS (x := nats (fj fs 0)) rfl r hr
  rcases List.mem_append.1 hr with hr | hr
  · exact nS (x := nats (tailS (fs.drop 0) t)) rfl r hr
  rcases List.mem_append.1 hr with hr | hr
  · exact nS (x := nats (tailS (fs.drop 1) t)) rfl r hr
  rcases List.mem_append.1 hr with hr | hr
  · exact nS (x := nats (tailS (fs.drop 2) t)) rfl r hr
  rcases List.mem_append.1 hr with hr | hr
  · exact nS (x := nats (tailS (fs.drop 6) t)) rfl r hr
  · cases hr
def decK (q : Nat) : List KR := [⟨fDecode, [.sym 0], pick formI imgs5 q⟩, ⟨fDecodeL, [.sym 0], pick formI imgs5 q⟩]
def tabs19 : List (FuncId × Img) := [(fAwake19, yes)]
theorem tabs19_ok {E : Env} (hP : E.P = Tryz.prog) (σ : Nat → Value) : MemoOK { E with memo := memoI gl tabs19 } σ := by
  refine MemoOK.ofI ?_ _
  rw [hP]
  intro x hx
  simp only [tabs19, List.mem_cons, List.mem_nil_iff, or_false] at hx
  rcases hx with rfl
  exact know19
def five5 : List Nat := [0, 1, 2, 3, 4]
theorem mem5 {q : Nat} (hq : q < 5) : q ∈ five5 := by
  have : ∀ q, q < 5 → q ∈ five5 := by decide
  exact this q hq

def EV5 (o : List OR) (k : List KR) : Env := Ee.askM 9 o [] (memoOr (memoI gl tabs19) (memoKH gl k))
theorem row5 {σ : Nat → Value} {o : List OR} {k : List KR} {f : FuncId} {args : List AV} {n : Nat} {v : AV} (run : rowRunG (EV5 o k) gl f args n v = true) (ho : ∀ E : Env, E.ty = E0.ty → ∀ r ∈ o, RowOK E 9 σ r) (hk : ∀ r ∈ k, KRow Tryz.prog gl σ r.f r.args r.img errV) : PRow Tryz.prog gl σ f args v errV :=
  PRow.ofGr (E := EV5 o k) (EnvS.askM envEe (ho _ rfl) (fun r hr => by cases hr)) (MemoOK.or (E := EV5 o k) (tabs19_ok (E := EV5 o k) rfl _) (memoKH_ok (E := EV5 o k) rfl hk)) run
end

/-! ### The errors' variables are laid -/
theorem iface_laid {W : World} (h : laidMet Tryz.prog Tryz.laid W) (hs : W.ShapedOpen Tryz.prog) {nm ty : String} {d : DataW Unit} (hm : (nm, DataW.iface ty d) ∈ Tryz.laid) {g t el : Nat} (hg : Tryz.prog.globalNamed nm = some g) (ht : (Tryz.prog.globals[g]?).map (·.type) = some t) (hu : (match Tryz.prog.underlying t with | some (.interface _) => true | _ => false) = true)
    (hlt : g < Tryz.prog.globals.size) (hel : (((begin Tryz.prog (fun _ _ => 0) default).world.heap[g]?).bind Obj.row?).map (·.2) = some el) : ifaceAt g W := by
  obtain ⟨ps, hl, _⟩ := h
  obtain ⟨g', t', cs, fuel, p, h1, h2, h3, h4⟩ := laid_at hl _ hm
  obtain rfl := Option.some.inj (hg.symm.trans h1)
  obtain rfl := Option.some.inj (ht.symm.trans h2)
  obtain ⟨ms, hu⟩ : ∃ ms, Tryz.prog.underlying t = some (.interface ms) := by
    split at hu
    · exact ⟨_, by assumption⟩
    · cases hu
  obtain ⟨⟨zero, el'⟩, hz, he⟩ := Option.map_eq_some_iff.1 hel
  obtain ⟨cs2, hc, _⟩ := hs.1 g zero el' hlt hz
  unfold World.var? at h3
  rw [h1] at h3
  simp only [Option.bind_some, hc, Option.some.injEq] at h3
  subst h3
  have hv : ∃ u v, cs2.toList = [.iface u v] := by
    cases fuel with
    | zero => simp [DataW.trod] at h4
    | succ fuel =>
      unfold DataW.trod at h4
      rw [hu] at h4
      generalize cs2.toList = l at h4 ⊢
      simp only at h4
      split at h4 <;> first | (rename_i hx; cases hx; done) | skip
      all_goals first
        | exact ⟨_, _, rfl⟩
        | (simp at h4; done)
        | (cases h4; done)
  obtain ⟨u, v, e⟩ := hv
  refine ⟨.iface u v, ?_, .inr ⟨u, v, rfl⟩⟩
  rw [cell_at hc, ← Array.getElem?_toList, e]; rfl
theorem errV_laid {W : World} (h : laidMet Tryz.prog Tryz.laid W) (hs : W.ShapedOpen Tryz.prog) : errV W := by
  refine ⟨tabV_laid h hs, ?_, ?_⟩
  · exact iface_laid h hs (nm := "strconv.ErrSyntax") (ty := "*errors.errorString") (d := .ptr (.agg [.lit (.string [105, 110, 118, 97, 108, 105, 100, 32, 115, 121, 110, 116, 97, 120])])) (by simp [Tryz.laid, Rows.serverNoneRow, Rows.laid_strconv_ErrSyntax]) (g := 2) (by kernel_rfl) (t := 38) (by kernel_rfl) (by kernel_rfl) (Nat.le_of_ble_eq_true (by kernel_rfl)) (el := 38) (by kernel_rfl)
  · exact iface_laid h hs (nm := "strconv.ErrRange") (ty := "*errors.errorString") (d := .ptr (.agg [.lit (.string [118, 97, 108, 117, 101, 32, 111, 117, 116, 32, 111, 102, 32, 114, 97, 110, 103, 101])])) (by simp [Tryz.laid, Rows.serverNoneRow, Rows.laid_strconv_ErrRange]) (g := 3) (by kernel_rfl) (t := 38) (by kernel_rfl) (by kernel_rfl) (Nat.le_of_ble_eq_true (by kernel_rfl)) (el := 38) (by kernel_rfl)

end Go.Proofs.YtnnhijfbdkokkaaGreatDoor
