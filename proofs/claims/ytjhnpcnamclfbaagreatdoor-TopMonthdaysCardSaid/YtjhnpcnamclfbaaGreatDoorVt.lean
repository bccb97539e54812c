/- TopMonthdays: the walk. From the row's condition on variables to the cells that the engine reads. From the row's condition to the cells of a variable that holds slices. From the row's condition to the variables' state of the engine. Where the listed variables read as the program lays them, the engine's state of the variables holds. No condition. -/
import Derived.Test.YtjhnpcnamclfbaaGreatDoorYm
import Derived.Deep.RegionWith
import Derived.Test.YtjhnpcnamclfbaaGreatDoorCs
import Derived.ProofKit
import Derived.OpenShut
import Derived.LaidMore
import Derived.Lay
import Derived.Stop.Joined
import Derived.ChangeSlices
import Derived.Shelf.Strings.Shaped
/-! TopMonthdays: the walk. -/
namespace Go.Proofs.YtjhnpcnamclfbaaGreatDoor
open Go Go.Eng Go.RowKit

theorem longN_31 (l : Bool) (m : Nat) : longN l m ≤ 31 := by
  unfold longN
  cases l <;> (repeat' split) <;> first | omega | exact (by decide)
theorem read_line {i : Nat} {ρt : Rho} (hi : i < 4) {p : Value} (hp : PtrX i ρt p) {x : Nat} (h1 : 1 ≤ x) (h2 : x ≤ lastN) {w : World} (hw : Vars gl w) (ht : tabW i ρt w) :
    Calls Tryz.prog fLRead #[p, strV (lineI i (x : Int))] w fun e w' => e = .returned (.tuple #[.int .i64 (x : Int), .bool true]) ∧ Below w.heap.size w w' := by
  have hl := lineI_len hi (x : Int)
  refine (c_read hi hp (s := lineI i (x : Int)) (by omega) w hw ht).mono ?_
  rintro e w' ⟨rfl, hB⟩
  have := read_hit (k := i) (x := x) hi h1 h2 (s := lineI i (x : Int)) (lineI_nat h1 h2).symm
  unfold readV
  rw [this.1, this.2]
  exact ⟨rfl, hB⟩
theorem date1_calls {n : Nat} (h1 : 1 ≤ n) (h2 : n ≤ lastN) {w : World} (hw : Vars gl w) : Calls Tryz.prog fDate1 #[.int .i64 (n : Int)] w fun e w' => e = .returned (.tuple #[.int .i64 ((dateN n).1 : Int), .int .i64 ((dateN n).2.1 : Int), .int .i64 ((dateN n).2.2 : Int)]) ∧ Below w.heap.size w w' :=
  c_date1 (dateN_dated h1 h2) w hw trivial
theorem long1_calls {n : Nat} (h1 : 1 ≤ n) (h2 : n ≤ lastN) {w : World} (hw : Vars gl w) : Calls Tryz.prog fLong1 #[.int .i64 ((dateN n).1 : Int), .int .i64 ((dateN n).2.1 : Int)] w fun e w' => e = .returned (.int .i64 (monthN n : Int)) ∧ Below w.heap.size w w' :=
  CVc (c_long1 (by have := (dateN_dated h1 h2).y1; omega) (dateN_dated h1 h2).m1 (dateN_dated h1 h2).m2) hw
theorem tx5_neg {k : Nat} (h1 : 1 ≤ k) (h2 : k ≤ 31) : toB (tx5 k) = [70, 82, 69, 81, 61, 77, 79, 78, 84, 72, 76, 89, 59, 66, 89, 77, 79, 78, 84, 72, 68, 65, 89, 61] ++ Lib.itoa (-(k : Int)) := by
  have e : Lib.itoa (-(k : Int)) = 45 :: Lib.decDigits k := by
    unfold Lib.itoa
    rw [if_pos (by omega)]
    congr 2
    omega
  rw [e]
  have hd : Lib.decDigits k = toB (dgs k) := by
    have : ∀ k, k < 32 → toB (dgs k) = (if k < 10 then [UInt8.ofNat (48 + k)] else [UInt8.ofNat (48 + k / 10), UInt8.ofNat (48 + k % 10)]) := by decide
    rw [this k (by omega), Lib.decDigits]
    split
    · rfl
    · rw [Lib.decDigits, dif_pos (by omega)]; rfl
  rw [hd]
  unfold tx5 toB
  rw [List.map_append]
  rfl
set_option maxRecDepth 100000 in
set_option maxHeartbeats 4000000 in
theorem monthdays_calls {w : World} (hw : Vars gl w) (he : errV w) (n k st : Nat) (_hn : n < 256) (hk : k < 256) (hst : st < 4294967296) :
    Calls Tryz.prog 7 #[.int .u8 (n : Int), .int .u8 (k : Int), .int .u32 (st : Int)] w fun e w' => e = .returned (.bool true) ∧ Below w.heap.size w w' := by
  have hA := awake_calls hw
  have hT := fun (W : World) (hW : Below w.heap.size w W) => table_calls (Varsb hw hW) n
  go_enter Tryz.func7, Tryz.ntmps7
  go_wp2_with fail
  refine hA.mono ?_
  rintro e w2 ⟨rfl, b2⟩
  go_wp2_with fail
  refine (hT w2 b2).mono ?_
  rintro e w3 ⟨p, rfl, hp1, b3, ρt, hX, hpx, _⟩
  have b3' := b2.trans (b3.mono b2.size)
  have hi4 : n % 4 < 4 := Nat.mod_lt _ (by omega)
  have ht3 : tabW (n % 4) ρt w3 := ⟨hX, errV_below he b3'⟩
  obtain ⟨bt, ot, rfl, btl, hnm⟩ := tab_name hi4 hpx ht3
  unfold strV at hnm
  go_wp2_with fail
  obtain ⟨D, hD⟩ : ∃ D : Nat, D = 1 + st % 3600000 := ⟨_, rfl⟩
  obtain ⟨K, hK⟩ : ∃ K : Nat, K = 1 + k % 31 := ⟨_, rfl⟩
  have eD : 1 + (st : Int) % 3600000 = (D : Int) := by omega
  have eK : 1 + (k : Int) % 31 = (K : Int) := by omega
  have D1 : 1 ≤ D := by omega
  have D2 : D ≤ 3600000 := by omega
  have K1 : 1 ≤ K := by omega
  have K2 : K ≤ 31 := by omega
  obtain ⟨hP, ho1, ho2, ho3⟩ := pv_md (i := n % 4) hi4 D1 D2 K1 K2
  rw [eD, eK]
  clear hD hK eD eK
  have hI := fun (W : World) (hW : Below w.heap.size w W) => c_itoaE (-(K : Int)) (by omega) (by omega) W (Varsb hw hW) (errV_below he hW)
  have et : strV (toB (tx5 K)) = .string ((⟨#[70, 82, 69, 81, 61, 77, 79, 78, 84, 72, 76, 89, 59, 66, 89, 77, 79, 78, 84, 72, 68, 65, 89, 61]⟩ : ByteArray) ++ ⟨(Lib.itoa (-(K : Int))).toArray⟩) := by
    have := bcat [70, 82, 69, 81, 61, 77, 79, 78, 84, 72, 76, 89, 59, 66, 89, 77, 79, 78, 84, 72, 68, 65, 89, 61] (Lib.itoa (-(K : Int)))
    rw [← tx5_neg K1 K2] at this
    exact congrArg Value.string this.symm
  have hL := fun (W : World) (hW : Below w.heap.size w W) => list_calls hP rfl rfl 2000 rfl (Varsb hw hW) (errV_below he hW)
  have hS := fun (W : World) (hW : Below w.heap.size w W) => hP.ask_calls (Varsb hw hW) (errV_below he hW)
  rw [et] at hL
  have hO : strV (okH hP.out.1 hP.out.2) = .string ⟨#[111, 107, 32, 49, 50, 32, 48]⟩ := by
    rw [okH_len ho1, ho2, okH12]; rfl
  simp only [hO] at hS
  clear hO ho2
  generalize hP.out.1 = xs at hS ho1 ho3
  simp only [ho1] at hS
  have hil : (Lib.itoa (-(K : Int))).length ≤ 20 := by
    unfold Lib.itoa
    rw [if_pos (by omega)]
    have := (dec_ok (u := (-(K : Int)).natAbs) (by omega)).2
    rw [List.length_cons]; omega
  unfold strV at hI hL hS
  go_region_with (first
    | (go_at_call 19; rw [IntWalk.i64_in (-(K : Int)) (by omega)]; refine (hI _ (belowDrew b3')).mono ?_; rintro e w4 ⟨rfl, h4⟩; have hnm := (h4.cell (p := ⟨bt, ot, none⟩) btl).trans hnm; have h4' := (belowDrew b3').trans (h4.mono (belowDrew b3').size))
    | (go_at_call 17; refine (hL _ h4').mono ?_; rintro e w5 ⟨rfl, h5⟩; have h5' := h4'.trans (h5.mono h4'.size))
    | (go_at_call 10; refine (hS _ h5').mono ?_; rintro e w6 ⟨B, c, rfl, hln, hB1, hB2, h6⟩; have h6' := h5'.trans (h6.mono h5'.size)))
  all_goals
    clear hA hT hS hI hL
    have h3 : Below w3.heap.size w3 w3.drew := belowDrew (Below.refl _ _)
    have h36 := ((h3.trans (h4.mono h3.size)).trans (h5.mono (h3.trans (h4.mono h3.size)).size))
    have h36 := h36.trans (h6.mono h36.size)
    have ht6 : tabW (n % 4) ρt w6 := tabW_below ht3 h36
    clear h36 h3 h4 h5 h6 h4' h5' hB1 hnm ht3
    go_wp2_with fail
    go_loopw [51] (fun i W => ∃ j : Nat, j ≤ 12 ∧ i = .int .i64 (j : Int) ∧ Hid (Below w6.heap.size w6 W)) (fun i _ => 12 - (vZ i).toNat)
    case atStart => exact ⟨0, Nat.zero_le _, rfl, hidZ (Below.refl _ _)⟩
    case round =>
      rename World => wq
      obtain ⟨j, hj, rfl, hB⟩ := hrel
      by_cases hjn : j < 12
      · obtain ⟨x, hx⟩ : ∃ x, xs[j]? = some x := ⟨_, List.getElem?_eq_getElem (by omega)⟩
        obtain ⟨x1, x2, x3⟩ := ho3 x (List.mem_of_getElem? hx)
        have hc : wq.cell? ⟨B, 1 + j, none⟩ = some (strV (lineI (n % 4) (x : Int))) := by
          rw [hB.out.cell hB2]
          exact hln j _ (by unfold linesN; rw [List.getElem?_map, hx]; rfl)
        have k1 : (j : Int) < 12 := by omega
        have hq := hB.out
        have hqw := h6'.trans (hq.mono h6'.size)
        have hR := read_line hi4 hpx x1 x2 (Varsb hw hqw) (tabW_below ht6 hq)
        have hd := fun (W : World) (hW : Below w.heap.size w W) => date1_calls x1 x2 (Varsb hw hW)
        have hg := fun (W : World) (hW : Below w.heap.size w W) => long1_calls x1 x2 (Varsb hw hW)
        unfold strV at hc hR
        go_wp2_with fail
        refine hR.mono ?_
        rintro e w7 ⟨rfl, h7⟩
        have h7' := hqw.trans (h7.mono hqw.size)
        go_wp2_with fail
        refine (hd w7 h7').mono ?_
        rintro e w8 ⟨rfl, h8⟩
        have h8' := h7'.trans (h8.mono h7'.size)
        go_wp2_with fail
        refine (hg w8 h8').mono ?_
        rintro e w9 ⟨rfl, h9⟩
        have h9' := hq.trans ((h7.trans ((h8.trans (h9.mono h8.size)).mono h7.size)).mono hq.size)
        have hD := dateN_dated x1 x2
        have m31 : monthN x ≤ 31 := longN_31 _ _
        have d31 := hD.d2
        clear hd hg hR hD
        generalize monthN x = M at *
        generalize (dateN x).2.2 = Dd at *
        have eM : (M : Int) - (Dd : Int) = (K : Int) - 1 := by omega
        go_wp2_with fail
        exact ⟨⟨j + 1, by omega, by go_num, hidZ h9'⟩, by simp [vZ]; omega⟩
      · have hje : j = 12 := by omega
        subst hje
        have hq := h6'.trans (hB.out.mono h6'.size)
        go_wp2_with fail
        exact bodyPost_ret (results_tmp rfl _ _ _) rfl ⟨rfl, hq⟩
end Go.Proofs.YtjhnpcnamclfbaaGreatDoor

/-! From the row's condition on variables to the cells that the engine reads. -/
namespace Go.Proofs.YtjhnpcnamclfbaaGreatDoor
open Go Go.Eng Go.RowKit

section
variable {P : Program} {W : World} {ρ : Rho} {σ : Nat → Value}

/-- Places one behind the other. -/
def consec {α : Type} (off sz : α → Nat) : List α → Nat → Nat → Prop
  | [], o, e => o = e
  | a :: l, o, e => off a = o ∧ consec off sz l (o + sz a) e

theorem consec_le {α : Type} {off sz : α → Nat} : ∀ {l : List α} {o e : Nat}, consec off sz l o e → o ≤ e
  | [], _, _, h => Nat.le_of_eq h
  | _ :: _, _, _, ⟨_, h⟩ => Nat.le_trans (Nat.le_add_right _ _) (consec_le h)

theorem take_split {α : Type} (l : List α) (o z e : Nat) (h : o + z ≤ e) : (l.drop o).take (e - o) = (l.drop o).take z ++ (l.drop (o + z)).take (e - (o + z)) := by
  have : e - o = z + (e - (o + z)) := by omega
  rw [this, List.take_add, List.drop_drop]

theorem pieces {α : Type} {f : α → Option (DataW Unit × List MemPlace)} {off sz : α → Nat} {cs : List Value} : ∀ (l : List α) (xs : List (DataW Unit × List MemPlace)) (o e : Nat), l.mapM f = some xs → consec off sz l o e →
    (∀ a ∈ l, ∀ x, f a = some x → VRs ρ σ (flatD x.1) ((cs.drop (off a)).take (sz a))) → VRs ρ σ (flatDs (xs.map (·.1))) ((cs.drop o).take (e - o))
  | [], xs, o, e, h, hc, _ => by
    simp at h; subst h
    have : o = e := hc
    subst this
    simp [flatDs, VRs]
  | a :: l, xs, o, e, h, ⟨h1, h2⟩, H => by
    rw [List.mapM_cons] at h
    obtain ⟨y, hy, h⟩ := Option.bind_eq_some_iff.1 h
    obtain ⟨ys, hys, h⟩ := Option.bind_eq_some_iff.1 h
    cases h
    subst h1
    have ih := pieces l ys _ e hys h2 (fun b hb => H b (by simp [hb]))
    rw [take_split cs (off a) (sz a) e (consec_le h2), List.map_cons]
    unfold flatDs
    exact (H a (by simp) y hy).append ih

theorem consec_range (z : Nat) : ∀ (m s : Nat), consec (fun i => i * z) (fun _ => z) (List.range' s m) (s * z) ((s + m) * z)
  | 0, s => rfl
  | m + 1, s => by
    refine ⟨rfl, ?_⟩
    have h := consec_range z m (s + 1)
    have e1 : (s + 1) * z = s * z + z := Nat.succ_mul s z
    have e2 : s + 1 + m = s + (m + 1) := by omega
    rw [e1, e2] at h
    exact h

/-- Fields one behind the other, each plain. -/
def okFs (P : Program) (ok : TypeId → Bool) : List Field → Nat → Nat → Bool
  | [], o, e => Nat.beq o e
  | f :: l, o, e => Nat.beq f.offset o && ok f.type && okFs P ok l (o + P.cellsOf f.type) e
/-- A type of numbers, bools and strings, arrays and structs of such. -/
def okT (P : Program) : Nat → TypeId → Bool
  | 0, _ => false
  | n + 1, t => match P.underlying t with
    | some (.int _) => true
    | some .string => true
    | some .bool => true
    | some (.array m e) => okT P n e && Nat.beq (P.cellsOf t) (m * P.cellsOf e)
    | some (.struct fs) => okFs P (okT P n) fs.toList 0 (P.cellsOf t)
    | _ => false

theorem okFs_spec {ok : TypeId → Bool} : ∀ {l : List Field} {o e : Nat}, okFs P ok l o e = true → consec (fun f : Field => f.offset) (fun f => P.cellsOf f.type) l o e ∧ ∀ f ∈ l, ok f.type = true
  | [], o, e, h => ⟨Nat.eq_of_beq_eq_true h, fun _ h => by cases h⟩
  | f :: l, o, e, h => by
    simp only [okFs, Bool.and_eq_true] at h
    obtain ⟨⟨h1, h2⟩, h3⟩ := h
    obtain ⟨h4, h5⟩ := okFs_spec h3
    refine ⟨⟨Nat.eq_of_beq_eq_true h1, h4⟩, fun g hg => ?_⟩
    rcases List.mem_cons.1 hg with rfl | hg
    · exact h2
    · exact h5 g hg

/-- WHAT READS AS PLAIN DATA HOLDS THEM, CELL FOR CELL. -/
theorem flat_trod {enc : TypeId × Value → Unit} {b : Nat} {sp : Nat → Bool} {hd : Bool} : ∀ (n : Nat) (t : TypeId), okT P n t = true → ∀ (fuel : Nat) (cs : List Value) (x : DataW Unit × List MemPlace), DataW.trod enc P W b sp hd fuel t cs = some x → VRs ρ σ (flatD x.1) cs
  | 0, _, h, _, _, _, _ => by cases h
  | n + 1, t, h, 0, cs, x, hx => by simp [DataW.trod] at hx
  | n + 1, t, h, fuel + 1, cs, x, hx => by
    unfold okT at h
    unfold DataW.trod at hx
    cases hu : P.underlying t with
    | none => rw [hu] at h; cases h
    | some u =>
      rw [hu] at h hx
      cases u <;> simp only [Bool.false_eq_true] at h
      case bool =>
        split at hx <;> first | (cases hx; simp [flatD, VRs, VR]; done) | (cases hx; done) | (simp_all; done)
      case int k =>
        split at hx <;> first | cases hx | skip
        all_goals simp_all
        obtain ⟨_, rfl⟩ := hx
        simp [flatD, VRs, VR]
      case string =>
        split at hx <;> first | cases hx | skip
        all_goals simp_all
        obtain ⟨_, rfl⟩ := hx
        simp [flatD, VRs, VR, bytesNat]
      case array m e =>
        simp only [Bool.and_eq_true] at h
        have hm := Nat.eq_of_beq_eq_true h.2
        simp only at hx
        split at hx
        case isFalse => cases hx
        rename_i hl
        obtain ⟨xs, hxs, rfl⟩ := Option.map_eq_some_iff.1 hx
        have hc := consec_range (P.cellsOf e) m 0
        rw [Nat.zero_mul, Nat.zero_add] at hc
        rw [List.range_eq_range'] at hxs
        have := pieces (ρ := ρ) (σ := σ) (cs := cs) _ xs 0 (m * P.cellsOf e) hxs hc (fun a _ y hy => flat_trod n e h.1 fuel _ y hy)
        rw [Nat.sub_zero, List.drop_zero, ← hm, ← hl, List.take_length] at this
        simp only [flatD]
        exact this
      case struct fs =>
        obtain ⟨h1, h2⟩ := okFs_spec h
        simp only at hx
        split at hx
        case isFalse => cases hx
        rename_i hl
        obtain ⟨xs, hxs, rfl⟩ := Option.map_eq_some_iff.1 hx
        have := pieces (ρ := ρ) (σ := σ) (cs := cs) _ xs 0 (P.cellsOf t) hxs h1 (fun a ha y hy => flat_trod n a.type (h2 a ha) fuel _ y hy)
        rw [Nat.sub_zero, List.drop_zero, ← hl, List.take_length] at this
        simp only [flatD]
        exact this

theorem laid_at {l : List (String × DataW Unit)} {ps : List MemPlace} (h : DataW.LaidVars P W l ps) : ∀ x ∈ l, ∃ g t cs fuel p, P.globalNamed x.1 = some g ∧ (P.globals[g]?).map (·.type) = some t ∧ W.var? P x.1 = some cs ∧
    DataW.trod (fun _ => ()) P W 0 (fun _ => true) false fuel t cs.toList = some (x.2, p) := by
  induction l generalizing ps with
  | nil => intro x hx; cases hx
  | cons y l ih =>
    obtain ⟨n, d⟩ := y
    obtain ⟨g, t, cs, fuel, p, q, h1, h2, h3, h4, h5, _⟩ := h
    intro x hx
    rcases List.mem_cons.1 hx with rfl | hx
    · exact ⟨g, t, cs, fuel, p, h1, h2, h3, h4⟩
    · exact ih h5 x hx

/-- What a variable of plain data holds. -/
theorem plain_var {l : List (String × DataW Unit)} (h : laidMet P l W) (hs : W.ShapedOpen P) {nm : String} {d : DataW Unit} (hm : (nm, d) ∈ l) {g t el : Nat} (hg : P.globalNamed nm = some g) (ht : (P.globals[g]?).map (·.type) = some t) (n : Nat) (hok : okT P n t = true)
    (hlt : g < P.globals.size) (hel : (((begin P (fun _ _ => 0) default).world.heap[g]?).bind Obj.row?).map (·.2) = some el) : ∃ c fr, W.heap[g]? = some (.cells c el fr) ∧ VRs ρ σ (flatD d) c.toList := by
  obtain ⟨ps, hl, _⟩ := h
  obtain ⟨g', t', cs, fuel, p, h1, h2, h3, h4⟩ := laid_at hl _ hm
  obtain rfl := Option.some.inj (hg.symm.trans h1)
  obtain rfl := Option.some.inj (ht.symm.trans h2)
  have hv := flat_trod (ρ := ρ) (σ := σ) n t hok fuel _ _ h4
  obtain ⟨⟨zero, el'⟩, hz, he⟩ := Option.map_eq_some_iff.1 hel
  obtain ⟨cs2, hc, _⟩ := hs.1 g zero el' hlt hz
  unfold World.var? at h3
  rw [h1] at h3
  simp only [Option.bind_some, hc, Option.some.injEq] at h3
  subst h3
  have he : el' = el := he
  subst he
  exact ⟨_, _, hc, hv⟩

/-- What a variable of an interface type holds: one cell. -/
theorem iface_var {l : List (String × DataW Unit)} (h : laidMet P l W) (hs : W.ShapedOpen P) {nm ty : String} {D d : DataW Unit} (hm : (nm, D) ∈ l) (hD : D = .iface ty d) {g t el : Nat} (hg : P.globalNamed nm = some g) (ht : (P.globals[g]?).map (·.type) = some t) {ms : Array (String × TypeId)} (hu : P.underlying t = some (.interface ms))
    (hlt : g < P.globals.size) (hel : (((begin P (fun _ _ => 0) default).world.heap[g]?).bind Obj.row?).map (·.2) = some el) : ∃ c fr, W.heap[g]? = some (.cells c el fr) ∧ VRs ρ σ [.unk] c.toList := by
  subst hD
  obtain ⟨ps, hl, _⟩ := h
  obtain ⟨g', t', cs, fuel, p, h1, h2, h3, h4⟩ := laid_at hl _ hm
  obtain rfl := Option.some.inj (hg.symm.trans h1)
  obtain rfl := Option.some.inj (ht.symm.trans h2)
  have hv : VRs ρ σ [.unk] cs.toList := by
    cases fuel with
    | zero => simp [DataW.trod] at h4
    | succ fuel =>
      unfold DataW.trod at h4
      rw [hu] at h4
      simp only at h4
      split at h4 <;> first | (simp at h4; done) | (rename_i heq _; cases heq; done) | (rename_i heq; cases heq; done) | (simp_all; done) | skip
      rename_i hcs
      rw [hcs]
      exact ⟨_, _, rfl, rfl, rfl⟩
  obtain ⟨⟨zero, el'⟩, hz, he⟩ := Option.map_eq_some_iff.1 hel
  obtain ⟨cs2, hc, _⟩ := hs.1 g zero el' hlt hz
  unfold World.var? at h3
  rw [h1] at h3
  simp only [Option.bind_some, hc, Option.some.injEq] at h3
  subst h3
  have he : el' = el := he
  subst he
  exact ⟨_, _, hc, hv⟩
end
end Go.Proofs.YtjhnpcnamclfbaaGreatDoor

/-! From the row's condition to the cells of a variable that holds slices. -/
namespace Go.Proofs.YtjhnpcnamclfbaaGreatDoor
open Go Go.Eng Go.RowKit

section
variable {P : Program} {W : World}

theorem cells_of_cell {a : Addr} {v : Value} (h : W.cell? a = some v) : a.spot = none ∧ ∃ c t fr, W.heap[a.block]? = some (.cells c t fr) ∧ c[a.off]? = some v := by
  unfold World.cell? at h
  split at h
  · rename_i c t fr hc
    split at h
    · cases h
    · rename_i hs
      refine ⟨?_, c, t, fr, hc, h⟩
      cases hq : a.spot with
      | none => rfl
      | some x => rw [hq] at hs; simp at hs
  · cases h

/-- A slice of integers that reads as these holds them, in one block. -/
theorem lit_slice {enc : TypeId × Value → Unit} {b : Nat} {hd : Bool} {fuel : Nat} {t e : TypeId} {k : IntKind} {cs : List Value} {zs : List Int} {p : List MemPlace} (ht : P.underlying t = some (.slice e)) (he : P.underlying e = some (.int k)) (hc : P.cellsOf e = 1) (hz : zs ≠ [])
    (h : DataW.trod enc P W b (fun _ => true) hd fuel t cs = some (.slice (zs.map fun z => .lit (.int k z)) [], p)) :
    ∃ a : Addr, cs = [.slice (some a) zs.length zs.length] ∧ a.spot = none ∧ ∃ c t' fr, W.heap[a.block]? = some (.cells c t' fr) ∧ a.off + zs.length ≤ c.size ∧ (c.toList.drop a.off).take zs.length = zs.map (Value.int k) := by
  rcases ChangeShapes.open_ints ht he hc h with ⟨_, hx⟩ | ⟨a, len, cap, ys, rfl, _, hlc, _, hlen, hx, hcell, _⟩
  · cases hx
  · simp only [Prod.mk.injEq, DataW.slice.injEq] at hx
    obtain ⟨⟨h1, h2⟩, _⟩ := hx
    have hlen : ys.length = cap := hlen
    have h2' : ys.drop len = [] := by
      cases hy : ys.drop len with
      | nil => rfl
      | cons y l => rw [hy] at h2; simp [ChangeShapes.lits] at h2
    have hcl : cap ≤ len := by rw [← hlen]; exact List.drop_eq_nil_iff.1 h2'
    have hlen2 : len = cap := Nat.le_antisymm hlc hcl
    subst hlen2
    have htake : ys.take len = ys := by rw [← hlen, List.take_length]
    rw [htake] at h1
    have hys : ys = zs := by
      have : zs.map (fun z => (DataW.lit (.int k z) : DataW Unit)) = ys.map (fun z => .lit (.int k z)) := by simpa [ChangeShapes.lits] using h1
      clear h h1 hcell h2 htake hcl hlc hlen hz
      have inj : ∀ (l m : List Int), l.map (fun z => (DataW.lit (.int k z) : DataW Unit)) = m.map (fun z => .lit (.int k z)) → l = m := by
        intro l
        induction l with
        | nil => intro m hm; cases m with | nil => rfl | cons y m => simp at hm
        | cons x l ih =>
          intro m hm
          cases m with
          | nil => simp at hm
          | cons y m =>
            simp only [List.map_cons, List.cons.injEq, DataW.lit.injEq, Lit.int.injEq, true_and] at hm
            rw [hm.1, ih m hm.2]
      exact (inj _ _ this).symm
    subst hys
    have h0 : 0 < ys.length := List.length_pos_iff.2 hz
    have hz0 : a.add 0 = a := rfl
    obtain ⟨hs, c, t', fr, hc', _⟩ := cells_of_cell (hcell 0 h0)
    rw [hz0] at hs hc'
    obtain ⟨ab, ao, asp⟩ := a
    replace hs : asp = none := hs
    subst hs
    have each : ∀ i, i < ys.length → c[ao + i]? = some (.int k (ys.getD i 0)) := fun i hi => by
      have hci := hcell i hi
      rw [addr_add] at hci
      obtain ⟨_, c2, t2, fr2, hc2, hv⟩ := cells_of_cell hci
      have hc2' : W.heap[ab]? = some (.cells c2 t2 fr2) := hc2
      have hc3 : W.heap[ab]? = some (.cells c t' fr) := hc'
      rw [hc3] at hc2'
      cases hc2'
      exact hv
    refine ⟨⟨ab, ao, none⟩, by rw [hlen], rfl, c, t', fr, hc', ?_, ?_⟩
    · have := (Array.getElem?_eq_some_iff.1 (each (ys.length - 1) (by omega))).1
      show ao + ys.length ≤ c.size
      omega
    · apply List.ext_getElem?
      intro i
      by_cases hi : i < ys.length
      · rw [List.getElem?_take, if_pos hi, List.getElem?_drop, Array.getElem?_toList, each i hi]
        simp [List.getD, hi]
      · rw [List.getElem?_take, if_neg hi, List.getElem?_eq_none (by simp; omega)]
end
end Go.Proofs.YtjhnpcnamclfbaaGreatDoor

/-! From the row's condition to the variables' state of the engine. -/
namespace Go.Proofs.YtjhnpcnamclfbaaGreatDoor
open Go Go.Eng Go.RowKit
set_option maxRecDepth 100000

section
variable {P : Program} {W : World} {enc : TypeId × Value → Unit} {b : Nat} {sp : Nat → Bool} {hd : Bool}

theorem trod_string {fuel : Nat} {t : TypeId} {cs : List Value} {s : List UInt8} {p : List MemPlace} (hu : P.underlying t = some .string) (h : DataW.trod enc P W b sp hd fuel t cs = some (.lit (.string s), p)) :
    ∃ bs : ByteArray, cs = [.string bs] ∧ bs.data.toList = s := by
  cases fuel with
  | zero => simp [DataW.trod] at h
  | succ fuel =>
    unfold DataW.trod at h
    rw [hu] at h
    split at h <;> first | (simp at h; done) | (simp_all; done) | skip

theorem trod_pair {fuel : Nat} {t : TypeId} {fs : Array Field} {f0 f1 : Field} {cs : List Value} {d0 d1 : DataW Unit} {p : List MemPlace} (hu : P.underlying t = some (.struct fs)) (hfs : fs.toList = [f0, f1]) (ho0 : f0.offset = 0) (ho1 : f1.offset = 1)
    (h0 : P.cellsOf f0.type = 1) (h1 : P.cellsOf f1.type = 1) (ht : P.cellsOf t = 2) (h : DataW.trod enc P W b sp hd fuel t cs = some (.agg [d0, d1], p)) :
    ∃ fuel' c0 c1 p0 p1, cs = [c0, c1] ∧ DataW.trod enc P W b sp hd fuel' f0.type [c0] = some (d0, p0) ∧ DataW.trod enc P W b sp hd fuel' f1.type [c1] = some (d1, p1) := by
  cases fuel with
  | zero => simp [DataW.trod] at h
  | succ fuel =>
    unfold DataW.trod at h
    rw [hu] at h
    simp only at h
    split at h
    case isFalse => cases h
    rename_i hl
    obtain ⟨xs, hxs, hx⟩ := Option.map_eq_some_iff.1 h
    rw [hfs] at hxs
    rw [ht] at hl
    obtain ⟨c0, c1, rfl⟩ : ∃ c0 c1, cs = [c0, c1] := by
      match cs, hl with
      | [c0, c1], _ => exact ⟨c0, c1, rfl⟩
    rw [List.mapM_cons] at hxs
    obtain ⟨y0, hy0, hxs⟩ := Option.bind_eq_some_iff.1 hxs
    obtain ⟨ys, hys, hxs⟩ := Option.bind_eq_some_iff.1 hxs
    cases hxs
    rw [List.mapM_cons] at hys
    obtain ⟨y1, hy1, hys⟩ := Option.bind_eq_some_iff.1 hys
    obtain ⟨zs, hzs, hys⟩ := Option.bind_eq_some_iff.1 hys
    cases hys
    simp at hzs
    subst hzs
    simp only [Prod.mk.injEq, DataW.agg.injEq, List.map_cons, List.map_nil, List.cons.injEq] at hx
    obtain ⟨⟨rfl, rfl, _⟩, _⟩ := hx
    rw [ho0, h0] at hy0
    rw [ho1, h1] at hy1
    exact ⟨fuel, c0, c1, y0.2, y1.2, rfl, hy0, hy1⟩

theorem trod_four {fuel : Nat} {t e : TypeId} {cs : List Value} {d0 d1 d2 d3 : DataW Unit} {p : List MemPlace} (hu : P.underlying t = some (.array 4 e)) (he : P.cellsOf e = 2) (ht : P.cellsOf t = 8) (h : DataW.trod enc P W b sp hd fuel t cs = some (.agg [d0, d1, d2, d3], p)) :
    ∃ fuel' c0 c1 c2 c3 c4 c5 c6 c7 p0 p1 p2 p3, cs = [c0, c1, c2, c3, c4, c5, c6, c7] ∧ DataW.trod enc P W b sp hd fuel' e [c0, c1] = some (d0, p0) ∧ DataW.trod enc P W b sp hd fuel' e [c2, c3] = some (d1, p1) ∧
      DataW.trod enc P W b sp hd fuel' e [c4, c5] = some (d2, p2) ∧ DataW.trod enc P W b sp hd fuel' e [c6, c7] = some (d3, p3) := by
  cases fuel with
  | zero => simp [DataW.trod] at h
  | succ fuel =>
    unfold DataW.trod at h
    rw [hu] at h
    simp only at h
    split at h
    case isFalse => cases h
    rename_i hl
    obtain ⟨xs, hxs, hx⟩ := Option.map_eq_some_iff.1 h
    rw [ht] at hl
    obtain ⟨c0, c1, c2, c3, c4, c5, c6, c7, rfl⟩ : ∃ c0 c1 c2 c3 c4 c5 c6 c7, cs = [c0, c1, c2, c3, c4, c5, c6, c7] := by
      match cs, hl with
      | [c0, c1, c2, c3, c4, c5, c6, c7], _ => exact ⟨c0, c1, c2, c3, c4, c5, c6, c7, rfl⟩
    rw [show List.range 4 = [0, 1, 2, 3] from rfl, he] at hxs
    rw [List.mapM_cons] at hxs
    obtain ⟨y0, hy0, hxs⟩ := Option.bind_eq_some_iff.1 hxs
    obtain ⟨ys, hys, hxs⟩ := Option.bind_eq_some_iff.1 hxs
    cases hxs
    rw [List.mapM_cons] at hys
    obtain ⟨y1, hy1, hys⟩ := Option.bind_eq_some_iff.1 hys
    obtain ⟨zs, hzs, hys⟩ := Option.bind_eq_some_iff.1 hys
    cases hys
    rw [List.mapM_cons] at hzs
    obtain ⟨y2, hy2, hzs⟩ := Option.bind_eq_some_iff.1 hzs
    obtain ⟨us, hus, hzs⟩ := Option.bind_eq_some_iff.1 hzs
    cases hzs
    rw [List.mapM_cons] at hus
    obtain ⟨y3, hy3, hus⟩ := Option.bind_eq_some_iff.1 hus
    obtain ⟨vs, hvs, hus⟩ := Option.bind_eq_some_iff.1 hus
    cases hus
    simp at hvs
    subst hvs
    simp only [Prod.mk.injEq, DataW.agg.injEq, List.map_cons, List.map_nil, List.cons.injEq] at hx
    obtain ⟨⟨rfl, rfl, rfl, rfl, _⟩, _⟩ := hx
    exact ⟨fuel, c0, c1, c2, c3, c4, c5, c6, c7, y0.2, y1.2, y2.2, y3.2, rfl, hy0, hy1, hy2, hy3⟩

/-- A word and integers behind it, in one block. -/
theorem trod_form {fuel : Nat} {t e : TypeId} {k : IntKind} {fs : Array Field} {f0 f1 : Field} {c0 c1 : Value} {s : List UInt8} {zs : List Int} {p : List MemPlace} (hu : P.underlying t = some (.struct fs)) (hfs : fs.toList = [f0, f1]) (ho0 : f0.offset = 0) (ho1 : f1.offset = 1)
    (h0 : P.cellsOf f0.type = 1) (h1 : P.cellsOf f1.type = 1) (ht : P.cellsOf t = 2) (hs : P.underlying f0.type = some .string) (hsl : P.underlying f1.type = some (.slice e)) (he : P.underlying e = some (.int k)) (hc : P.cellsOf e = 1) (hz : zs ≠ [])
    (h : DataW.trod enc P W b (fun _ => true) hd fuel t [c0, c1] = some (.agg [.lit (.string s), .slice (zs.map fun z => .lit (.int k z)) []], p)) :
    (∃ bs : ByteArray, c0 = .string bs ∧ bs.data.toList = s) ∧ ∃ a : Addr, c1 = .slice (some a) zs.length zs.length ∧ a.spot = none ∧ ∃ c t' fr, W.heap[a.block]? = some (.cells c t' fr) ∧ a.off + zs.length ≤ c.size ∧ (c.toList.drop a.off).take zs.length = zs.map (Value.int k) := by
  obtain ⟨fuel', x0, x1, p0, p1, e1, g0, g1⟩ := trod_pair hu hfs ho0 ho1 h0 h1 ht h
  cases e1
  obtain ⟨bs, eb, hb⟩ := trod_string hs g0
  obtain ⟨a, ea, r⟩ := lit_slice hsl he hc hz g1
  cases eb
  cases ea
  exact ⟨⟨bs, rfl, hb⟩, a, rfl, r⟩
end

/-- Plain data in a variable's own block. -/
theorem holds_plain {W : World} {σ : Nat → Value} {ρ : Rho} {g el : Nat} {cs : List AV} {L : Eng.Loc} (hp : ∀ a ∈ cs, plainA a = true) (hel : el < tailN) (h : ∃ c fr, W.heap[g]? = some (.cells c el fr) ∧ VRs (fun _ => none) σ cs c.toList) (hL : L = ⟨g, 0, cs.length⟩) : Holds ρ σ W ⟨g, cs, el⟩ L := by
  obtain ⟨c, fr, h2, h3⟩ := h
  have hlen := h3.length
  have hsz : cs.length = c.size := by rw [← hlen]; simp
  subst hL
  refine ⟨c, el, fr, h2, fun _ => by unfold elOf; rw [if_pos hel], fun _ => rfl, ?_, Nat.le_refl _, by show 0 + cs.length ≤ c.size; omega⟩
  have : (c.toList.drop 0).take cs.length = c.toList := by rw [List.drop_zero, ← hlen, List.take_length]
  show VRs _ σ cs ((c.toList.drop 0).take cs.length)
  rw [this]
  exact plains_any hp h3

theorem ints_rel {ρ : Rho} {σ : Nat → Value} {k : IntKind} : ∀ zs : List Int, VRs ρ σ (zs.map (AV.int k)) (zs.map (Value.int k))
  | [] => rfl
  | _ :: zs => ⟨_, _, rfl, rfl, ints_rel zs⟩
/-- Integers in a part of a block. -/
theorem holds_ints {W : World} {σ : Nat → Value} {ρ : Rho} {g : Nat} {k : IntKind} {zs : List Int} {a : Addr} {L : Eng.Loc} (h : ∃ c t fr, W.heap[a.block]? = some (.cells c t fr) ∧ a.off + zs.length ≤ c.size ∧ (c.toList.drop a.off).take zs.length = zs.map (Value.int k))
    (hL : L = ⟨a.block, a.off, zs.length⟩) : Holds ρ σ W ⟨g, zs.map (AV.int k), unkT⟩ L := by
  obtain ⟨c, t, fr, h1, h2, h3⟩ := h
  subst hL
  refine ⟨c, t, fr, h1, fun h => absurd rfl h, fun h => absurd (show unkT < tailN from h) (by unfold unkT tailN; omega), ?_, by show (zs.map (AV.int k)).length ≤ zs.length; simp, h2⟩
  show VRs ρ σ (zs.map (AV.int k)) ((c.toList.drop a.off).take (zs.map (AV.int k)).length)
  rw [List.length_map, h3]
  exact ints_rel zs
end Go.Proofs.YtjhnpcnamclfbaaGreatDoor

/-! Where the listed variables read as the program lays them, the engine's state of the variables holds. -/
namespace Go.Proofs.YtjhnpcnamclfbaaGreatDoor
open Go Go.Eng Go.RowKit
set_option maxRecDepth 100000

abbrev Tryz.laid : List (String × DataW Unit) := Rows.topMonthdaysRow.laid

theorem addr_eta {a : Addr} (h : a.spot = none) : a = ⟨a.block, a.off, none⟩ := by cases a; cases h; rfl

/-- What 'forms' holds: words, and integers in blocks behind. -/
theorem forms_laid {W : World} (h : laidMet Tryz.prog Tryz.laid W) (hs : W.ShapedOpen Tryz.prog) : ∃ (a0 a1 a2 a3 : Addr) (c : Array Value) (fr : Nat × Nat), W.heap[1]? = some (.cells c 113 fr) ∧ (∃ b0 b1 b2 b3 : ByteArray,
      c.toList = [.string b0, .slice (some ⟨a0.block, a0.off, none⟩) 3 3, .string b1, .slice (some ⟨a1.block, a1.off, none⟩) 2 2, .string b2, .slice (some ⟨a2.block, a2.off, none⟩) 7 7, .string b3, .slice (some ⟨a3.block, a3.off, none⟩) 1 1] ∧
      b0.data.toList = [112, 97, 114, 115, 101] ∧ b1.data.toList = [100, 101, 115, 99, 114, 105, 98, 101] ∧ b2.data.toList = [112, 114, 101, 118, 105, 101, 119] ∧ b3.data.toList = [99, 104, 101, 99, 107]) ∧
    (∃ c t fr, W.heap[a0.block]? = some (.cells c t fr) ∧ a0.off + ([0, 1, 3] : List Int).length ≤ c.size ∧ (c.toList.drop a0.off).take ([0, 1, 3] : List Int).length = ([0, 1, 3] : List Int).map (Value.int .i64)) ∧
    (∃ c t fr, W.heap[a1.block]? = some (.cells c t fr) ∧ a1.off + ([0, 3] : List Int).length ≤ c.size ∧ (c.toList.drop a1.off).take ([0, 3] : List Int).length = ([0, 3] : List Int).map (Value.int .i64)) ∧
    (∃ c t fr, W.heap[a2.block]? = some (.cells c t fr) ∧ a2.off + ([0, 1, 1, 1, 2, 2, 3] : List Int).length ≤ c.size ∧ (c.toList.drop a2.off).take ([0, 1, 1, 1, 2, 2, 3] : List Int).length = ([0, 1, 1, 1, 2, 2, 3] : List Int).map (Value.int .i64)) ∧
    (∃ c t fr, W.heap[a3.block]? = some (.cells c t fr) ∧ a3.off + ([3] : List Int).length ≤ c.size ∧ (c.toList.drop a3.off).take ([3] : List Int).length = ([3] : List Int).map (Value.int .i64)) := by
  have hg : Tryz.prog.globalNamed "kalends/wire.forms" = some 1 := by kernel_rfl
  have ht : (Tryz.prog.globals[1]?).map (·.type) = some 113 := by kernel_rfl
  have hel : (((begin Tryz.prog (fun _ _ => 0) default).world.heap[1]?).bind Obj.row?).map (·.2) = some 113 := by kernel_rfl
  have hlt : 1 < Tryz.prog.globals.size := Nat.le_of_ble_eq_true (by kernel_rfl)
  have hm : ("kalends/wire.forms", (Rows.laid_kalends_wire_forms : DataW Unit)) ∈ Tryz.laid := by simp [Tryz.laid, Rows.topMonthdaysRow]
  obtain ⟨ps, hl, _⟩ := h
  obtain ⟨g', t', cs, fuel, p, h1, h2, h3, h4⟩ := laid_at hl _ hm
  obtain rfl := Option.some.inj (hg.symm.trans h1)
  obtain rfl := Option.some.inj (ht.symm.trans h2)
  obtain ⟨⟨zero, el'⟩, hz, he⟩ := Option.map_eq_some_iff.1 hel
  obtain ⟨cs2, hc, _⟩ := hs.1 1 zero el' hlt hz
  unfold World.var? at h3
  rw [h1] at h3
  simp only [Option.bind_some, hc, Option.some.injEq] at h3
  subst h3
  have he : el' = 113 := he
  subst he
  have u113 : Tryz.prog.underlying 113 = some (.array 4 112) := Tryz.underlying113
  obtain ⟨f', c0, c1, c2, c3, c4, c5, c6, c7, p0, p1, p2, p3, hcs, g0, g1, g2, g3⟩ := trod_four u113 (by kernel_rfl) (by kernel_rfl) h4
  have key : ∀ {c0 c1 : Value} {s : List UInt8} {zs : List Int} {p : List MemPlace}, zs ≠ [] → DataW.trod (fun _ => ()) Tryz.prog W 0 (fun _ => true) false f' 112 [c0, c1] = some (.agg [.lit (.string s), .slice (zs.map fun z => .lit (.int .i64 z)) []], p) →
      (∃ bs : ByteArray, c0 = .string bs ∧ bs.data.toList = s) ∧ ∃ a : Addr, c1 = .slice (some a) zs.length zs.length ∧ a.spot = none ∧ ∃ c t' fr, W.heap[a.block]? = some (.cells c t' fr) ∧ a.off + zs.length ≤ c.size ∧ (c.toList.drop a.off).take zs.length = zs.map (Value.int .i64) :=
    fun hz h => trod_form (fs := _) (f0 := _) (f1 := _) Tryz.underlying112 rfl (by kernel_rfl) (by kernel_rfl) (by kernel_rfl) (by kernel_rfl) (by kernel_rfl) Tryz.underlying9 Tryz.underlying111 (by kernel_rfl) (by kernel_rfl) hz h
  obtain ⟨⟨b0, rfl, hb0⟩, a0, rfl, s0, k0⟩ := key (zs := [0, 1, 3]) (by simp) g0
  obtain ⟨⟨b1, rfl, hb1⟩, a1, rfl, s1, k1⟩ := key (zs := [0, 3]) (by simp) g1
  obtain ⟨⟨b2, rfl, hb2⟩, a2, rfl, s2, k2⟩ := key (zs := [0, 1, 1, 1, 2, 2, 3]) (by simp) g2
  obtain ⟨⟨b3, rfl, hb3⟩, a3, rfl, s3, k3⟩ := key (zs := [3]) (by simp) g3
  refine ⟨a0, a1, a2, a3, cs2, _, hc, ⟨b0, b1, b2, b3, ?_, hb0, hb1, hb2, hb3⟩, k0, k1, k2, k3⟩
  rw [hcs, ← addr_eta s0, ← addr_eta s1, ← addr_eta s2, ← addr_eta s3]
  rfl

theorem maxLen_laid {W : World} (hs : W.ShapedOpen Tryz.prog) : ∃ m fr, W.heap[4]? = some (.cells #[.int .i64 m] 3 fr) := by
  have h0 : ((begin Tryz.prog (fun _ _ => 0) default).world.heap[4]?).bind Obj.row? = some (#[.int .i64 0], 3) := by kernel_rfl
  have hlt : 4 < Tryz.prog.globals.size := of_decide_eq_true (by kernel_rfl)
  obtain ⟨m, hm⟩ := Go.Proofs.cell_of_shapedOpen_int (P := Tryz.prog) (g := 4) (zero := #[.int .i64 0]) (t := 3) hs hlt h0 rfl (by kernel_rfl) (by kernel_rfl) Tryz.underlying3
  obtain ⟨cs, hh, hsz, _⟩ := hs.1 4 #[.int .i64 0] 3 hlt h0
  rw [cell_at hh] at hm
  have hsz : cs.size = 1 := hsz
  have : cs = #[.int .i64 m] := by
    apply Array.ext
    · exact hsz
    · intro i h1 h2
      have : i = 0 := by omega
      subst this
      have := (Array.getElem?_eq_some_iff.1 hm).2
      simpa using this
  subst this
  exact ⟨m, _, hh⟩

/-- The variables' state, wherever they lie as laid. -/
theorem vars_laid {W : World} (h : laidMet Tryz.prog Tryz.laid W) (hs : W.ShapedOpen Tryz.prog) : ∃ m, ∀ σ : Nat → Value, σ 900 = .int .i64 m → ∃ ρ, R (.at W.heap.size) ρ σ (stOf gl) W := by
  obtain ⟨m, frm, hmax⟩ := maxLen_laid hs
  obtain ⟨a0, a1, a2, a3, cf, frf, hf, ⟨b0, b1, b2, b3, hcf, hb0, hb1, hb2, hb3⟩, k0, k1, k2, k3⟩ := forms_laid h hs
  refine ⟨m, fun σ hσ => ?_⟩
  have mem : ∀ y, y ∈ Tryz.laid ↔ y ∈ Rows.topMonthdaysRow.laid := fun _ => Iff.rfl
  let loc : Nat → Eng.Loc := fun i => if i = 500 then ⟨a0.block, a0.off, 3⟩ else if i = 501 then ⟨a1.block, a1.off, 2⟩ else if i = 502 then ⟨a2.block, a2.off, 7⟩ else if i = 503 then ⟨a3.block, a3.off, 1⟩ else
    ⟨i, 0, match gl.find? (fun x => Nat.beq x.g i) with | some x => x.cs.length | none => 0⟩
  refine ⟨_, R.init' (σ := σ) (w := W) glOK loc (fun g hg => ?_) (fun x hx => ?_)⟩
  · have hg : g < 500 := hg
    have e : loc g = ⟨g, 0, match gl.find? (fun x => Nat.beq x.g g) with | some x => x.cs.length | none => 0⟩ := by
      show (if g = 500 then _ else if g = 501 then _ else if g = 502 then _ else if g = 503 then _ else _) = _
      rw [if_neg (by omega), if_neg (by omega), if_neg (by omega), if_neg (by omega)]
    rw [e]; exact ⟨rfl, rfl⟩
  · have pv : ∀ {nm : String} {d : DataW Unit} {g t el : Nat}, (nm, d) ∈ Tryz.laid → Tryz.prog.globalNamed nm = some g → (Tryz.prog.globals[g]?).map (·.type) = some t → okT Tryz.prog 4 t = true → g < Tryz.prog.globals.size →
        (((begin Tryz.prog (fun _ _ => 0) default).world.heap[g]?).bind Obj.row?).map (·.2) = some el → ∃ c fr, W.heap[g]? = some (.cells c el fr) ∧ VRs (fun _ => none) σ (flatD d) c.toList :=
      fun h1 h2 h3 h4 h5 h6 => plain_var h hs h1 h2 h3 4 h4 h5 h6
    have ml : ∀ {nm : String} {d : DataW Unit}, (nm, d) ∈ Rows.topMonthdaysRow.laid → (nm, d) ∈ Tryz.laid := fun h => h
    simp only [Rows.topMonthdaysRow] at ml
    have hlen : ∀ x ∈ gl, x.g < 500 → loc x.g = ⟨x.g, 0, x.cs.length⟩ := by
      intro x hx hg
      have e : loc x.g = ⟨x.g, 0, match gl.find? (fun y => Nat.beq y.g x.g) with | some y => y.cs.length | none => 0⟩ := by
        show (if x.g = 500 then _ else if x.g = 501 then _ else if x.g = 502 then _ else if x.g = 503 then _ else _) = _
        rw [if_neg (by omega), if_neg (by omega), if_neg (by omega), if_neg (by omega)]
      rw [e]
      have hall : allB (fun x => Nat.beq (match gl.find? (fun y => Nat.beq y.g x.g) with | some y => len y.cs | none => 0) (len x.cs)) gl = true := by kernel_rfl
      have := Nat.eq_of_beq_eq_true (allB_spec hall x hx)
      cases hfd : gl.find? (fun y => Nat.beq y.g x.g) with
      | none => rw [hfd] at this; simp only [len_eq] at this ⊢; rw [this]
      | some y => rw [hfd] at this; simp only [len_eq] at this ⊢; rw [this]
    have hl := hlen x hx
    simp only [gl, List.mem_cons, List.mem_nil_iff, or_false] at hx
    rcases hx with rfl | rfl | rfl | rfl | rfl | rfl | rfl | rfl | rfl | rfl | rfl | rfl | rfl | rfl | rfl | rfl | rfl
    · exact holds_plain (allB_spec (p := plainA) (by kernel_rfl)) (Nat.le_of_ble_eq_true (by kernel_rfl)) (pv (nm := "kalends/civil.months") (ml (by simp)) (by kernel_rfl) (t := 94) (by kernel_rfl) (by kernel_rfl) (Nat.le_of_ble_eq_true (by kernel_rfl)) (by kernel_rfl)) (hl (by decide))
    · refine ⟨cf, 113, frf, by rw [hl (by decide)]; exact hf, fun _ => rfl, fun _ => by rw [hl (by decide)], ?_, by rw [hl (by decide)]; exact Nat.le_refl _, by rw [hl (by decide), ← Array.length_toList, hcf]; exact Nat.le_refl _⟩
      rw [hl (by decide)]
      show VRs _ σ _ ((cf.toList.drop 0).take 8)
      rw [hcf]
      have sl : ∀ (i n : Nat) (a : Addr), loc i = ⟨a.block, a.off, n⟩ → i < gN → VR (rho0 loc) σ (.slice i 0 n n 1) (.slice (some ⟨a.block, a.off, none⟩) n n) := by
        intro i n a hi hig
        refine ⟨loc i, _, n, by unfold rho0; rw [if_pos hig], rfl, Nat.le_refl _, Nat.le_refl _, .inr ⟨by rw [hi]; rfl, ?_⟩⟩
        rw [hi]; show 0 + n * 1 ≤ n; omega
      have st : ∀ (b : ByteArray) (l : List UInt8), b.data.toList = l → VR (rho0 loc) σ (.str (l.map UInt8.toNat)) (.string b) := fun b l hb => ⟨b, rfl, by unfold bytesNat; rw [hb]⟩
      exact ⟨_, _, rfl, st _ _ hb0, _, _, rfl, sl 500 3 a0 rfl (by unfold gN; omega), _, _, rfl, st _ _ hb1, _, _, rfl, sl 501 2 a1 rfl (by unfold gN; omega), _, _, rfl, st _ _ hb2, _, _, rfl, sl 502 7 a2 rfl (by unfold gN; omega), _, _, rfl, st _ _ hb3, _, _, rfl, sl 503 1 a3 rfl (by unfold gN; omega), rfl⟩
    · exact holds_ints (zs := [0, 1, 3]) k0 rfl
    · exact holds_ints (zs := [0, 3]) k1 rfl
    · exact holds_ints (zs := [0, 1, 1, 1, 2, 2, 3]) k2 rfl
    · exact holds_ints (zs := [3]) k3 rfl
    · exact holds_plain (allB_spec (p := plainA) (by kernel_rfl)) (Nat.le_of_ble_eq_true (by kernel_rfl)) (pv (nm := "kalends/rfc.freqs") (ml (by simp)) (by kernel_rfl) (t := 185) (by kernel_rfl) (by kernel_rfl) (Nat.le_of_ble_eq_true (by kernel_rfl)) (by kernel_rfl)) (hl (by decide))
    · exact holds_plain (allB_spec (p := plainA) (by kernel_rfl)) (Nat.le_of_ble_eq_true (by kernel_rfl)) (pv (nm := "internal/strconv.uint64pow10") (ml (by simp)) (by kernel_rfl) (t := 222) (by kernel_rfl) (by kernel_rfl) (Nat.le_of_ble_eq_true (by kernel_rfl)) (by kernel_rfl)) (hl (by decide))
    · exact holds_plain (allB_spec (p := plainA) (by kernel_rfl)) (Nat.le_of_ble_eq_true (by kernel_rfl)) ⟨_, frm, hmax, _, _, rfl, ⟨hσ.symm, rfl⟩, rfl⟩ (hl (by decide))
    · exact holds_plain (allB_spec (p := plainA) (by kernel_rfl)) (Nat.le_of_ble_eq_true (by kernel_rfl)) (pv (nm := "kalends/rfc.weekdays") (ml (by simp)) (by kernel_rfl) (t := 284) (by kernel_rfl) (by kernel_rfl) (Nat.le_of_ble_eq_true (by kernel_rfl)) (by kernel_rfl)) (hl (by decide))
    · exact holds_plain (allB_spec (p := plainA) (by kernel_rfl)) (Nat.le_of_ble_eq_true (by kernel_rfl)) (iface_var (nm := "strconv.ErrSyntax") (t := 90) h hs (D := Rows.laid_strconv_ErrSyntax) (ml (by simp)) rfl (by kernel_rfl) (by kernel_rfl) Tryz.underlying90 (Nat.le_of_ble_eq_true (by kernel_rfl)) (by kernel_rfl)) (hl (by decide))
    · exact holds_plain (allB_spec (p := plainA) (by kernel_rfl)) (Nat.le_of_ble_eq_true (by kernel_rfl)) (iface_var (nm := "strconv.ErrRange") (t := 90) h hs (D := Rows.laid_strconv_ErrRange) (ml (by simp)) rfl (by kernel_rfl) (by kernel_rfl) Tryz.underlying90 (Nat.le_of_ble_eq_true (by kernel_rfl)) (by kernel_rfl)) (hl (by decide))
    · exact holds_plain (allB_spec (p := plainA) (by kernel_rfl)) (Nat.le_of_ble_eq_true (by kernel_rfl)) (pv (nm := "unicode/utf8.first") (ml (by simp)) (by kernel_rfl) (t := 306) (by kernel_rfl) (by kernel_rfl) (Nat.le_of_ble_eq_true (by kernel_rfl)) (by kernel_rfl)) (hl (by decide))
    · exact holds_plain (allB_spec (p := plainA) (by kernel_rfl)) (Nat.le_of_ble_eq_true (by kernel_rfl)) (pv (nm := "unicode/utf8.acceptRanges") (ml (by simp)) (by kernel_rfl) (t := 309) (by kernel_rfl) (by kernel_rfl) (Nat.le_of_ble_eq_true (by kernel_rfl)) (by kernel_rfl)) (hl (by decide))
    · exact holds_plain (allB_spec (p := plainA) (by kernel_rfl)) (Nat.le_of_ble_eq_true (by kernel_rfl)) (pv (nm := "kalends/table.many") (ml (by simp)) (by kernel_rfl) (t := 311) (by kernel_rfl) (by kernel_rfl) (Nat.le_of_ble_eq_true (by kernel_rfl)) (by kernel_rfl)) (hl (by decide))
    · exact holds_plain (allB_spec (p := plainA) (by kernel_rfl)) (Nat.le_of_ble_eq_true (by kernel_rfl)) (pv (nm := "math/bits.deBruijn32tab") (ml (by simp)) (by kernel_rfl) (t := 364) (by kernel_rfl) (by kernel_rfl) (Nat.le_of_ble_eq_true (by kernel_rfl)) (by kernel_rfl)) (hl (by decide))
    · exact holds_plain (allB_spec (p := plainA) (by kernel_rfl)) (Nat.le_of_ble_eq_true (by kernel_rfl)) (pv (nm := "math/bits.deBruijn64tab") (ml (by simp)) (by kernel_rfl) (t := 365) (by kernel_rfl) (by kernel_rfl) (Nat.le_of_ble_eq_true (by kernel_rfl)) (by kernel_rfl)) (hl (by decide))
end Go.Proofs.YtjhnpcnamclfbaaGreatDoor
