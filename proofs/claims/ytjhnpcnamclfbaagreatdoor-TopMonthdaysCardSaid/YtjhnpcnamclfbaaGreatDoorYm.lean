/- The server's reply to a preview, on. The server's reply to a preview as lines; requests of previews. server.Do at a preview's request; ask. Runs of closed calls, by the kernel. Runs of closed calls, by the kernel. Runs of closed calls, by the kernel. What the laws call. A preview's request, written. What a preview of weeks, months, years lists. TopMonthdays. No condition. -/
import Derived.Test.YtjhnpcnamclfbaaGreatDoorNd
import Derived.Lib.SplitLaws
import Derived.Deep.QuietTactic
import Derived.BigQuiet
import Derived.Test.YtjhnpcnamclfbaaGreatDoorMn
/-! The server's reply to a preview, on. -/
namespace Go.Proofs.YtjhnpcnamclfbaaGreatDoor
open Go Go.Eng Go.RowKit

theorem errV_below {w w1 : World} (h : errV w) (hB : Below w.heap.size w w1) : errV w1 := (errV_hold w h).keep _ _ h ⟨hB.os, hB.tape, hB.output, hB.size, hB.block⟩
theorem tabW_below {k : Nat} {ρt : Rho} {w w1 : World} (h : tabW k ρt w) (hB : Below w.heap.size w w1) : tabW k ρt w1 := (tabW_all k ρt w h).keep _ _ h ⟨hB.os, hB.tape, hB.output, hB.size, hB.block⟩
theorem belowDrew {B : Nat} {a w : World} (h : Below B a w) : Below B a w.drew := ⟨h.os, h.tape, h.output, h.size, h.block⟩
theorem ints_some {w : World} {v : Value} {l : List Int} (h : IntsAt w v l) (hl : l ≠ []) : ∃ b o c, v = .slice (some ⟨b, o, none⟩) l.length c ∧ ∀ (j : Nat) z, l[j]? = some z → w.cell? ⟨b, o + j, none⟩ = some (.int .i64 z) := by
  rcases h with ⟨a, c, rfl, rfl⟩ | h
  · exact absurd rfl hl
  · exact h
def okB8 (out : List Nat) (sh : Bool) : List UInt8 := [111, 107, 32] ++ Lib.decDigits out.length ++ [32] ++ (if sh then [49] else [48]) ++ [10]
def lstI (out : List Nat) : List Int := out.map Int.ofNat
/-- A preview's reply. -/
noncomputable def repB (i : Nat) (o : List Nat × Bool) : List UInt8 := okB8 o.1 o.2 ++ allL i (lstI o.1)
theorem allL_len {i : Nat} (hi : i < 4) : ∀ l : List Int, (allL i l).length ≤ 61 * l.length
  | [] => Nat.le_refl _
  | d :: l => by
    have := allL_len hi l
    have h2 := lineI_len hi d
    show (lineI i d ++ (10 :: allL i l)).length ≤ _
    rw [List.length_append, List.length_cons, List.length_cons]
    omega
theorem day_all {i : Nat} {ρt : Rho} (hi : i < 4) {p : Value} (hp : PtrX i ρt p) {base : Nat} {u : Value} {out : List Nat} (ho : out ≠ []) (hl : out.length ≤ 1000) {w : World} (hw : Vars gl w) (ht : tabW i ρt w) (hrow : w.ownsRow base 26 1 u out.length (out.map dayV)) :
    Calls Tryz.prog fLAll #[p, u] w fun e w' => e = .returned (.string ⟨(allL i (lstI out)).toArray⟩) ∧ Below w.heap.size w w' := by
  rcases own_cellZ hrow with ⟨_, h0, _⟩ | ⟨g, cap, rfl, _, g2, g3⟩
  · exact absurd (List.eq_nil_of_length_eq_zero h0) ho
  · have e : (lstI out).length = out.length := List.length_map _
    have hL := allL_len hi (lstI out)
    have := all_calls hi hp g 0 cap (lstI out) w hw ht (fun j d hj => by
      rw [Nat.zero_add]
      refine g3 j _ ?_
      unfold lstI at hj
      rw [List.getElem?_map] at hj ⊢
      cases hx : out[j]? with
      | none => rw [hx] at hj; cases hj
      | some y => rw [hx] at hj; cases hj; rfl) g2 (by rw [e]; exact hl) (by omega)
    rw [e] at this
    exact this
theorem pv_len {a : AskN} {k : Nat} {s0 : SpT} : (pvN a k s0).1.length ≤ a.limit := by
  have one : ∀ (fuel i : Nat) (st : (List Nat × Nat) × Nat), st.1.1.length ≤ a.limit → (pvRun a k s0 fuel i st).1.length ≤ a.limit := by
    intro fuel
    induction fuel with
    | zero => intro i st h; exact h
    | succ fuel ih =>
      intro i st h
      rw [pvRun_succ]
      cases atN a.r.freq k s0 i with
      | none => exact h
      | some s =>
        show (match spanN a st s with | .inl st' => pvRun a k s0 fuel (i + 1) st' | .inr o => o).1.length ≤ a.limit
        cases hs : spanN a st s with
        | inl st' => exact ih (i + 1) st' (spanN_inl hs h).1
        | inr o => exact spanN_inr hs h
  exact one _ _ _ (Nat.zero_le _)

set_option maxRecDepth 100000 in
set_option maxHeartbeats 4000000 in
theorem ruled_calls {i : Nat} {ρt : Rho} (hi : i < 4) {p : Value} (hp : PtrX i ρt p) (a : AskN) (hr : RuleOk a.r) (hk : a.r.interval = 1) (s1 : 1 ≤ a.start) (s2 : a.start ≤ lastN) (hto : a.upto ≤ 4000000) (hli : a.limit ≤ 1000) (hbu : a.budget ≤ 1000000) (htil : a.r.til = 0) (hcnt : a.r.count = 0)
    (hfr : a.from_ ≤ 4000000) (loc t : List UInt8) (sd sn : Value) (hP : ParseTo t a.r) (hne : (pvN a 1 (spT a.r.freq a.start s1 s2)).1 ≠ []) {w : World} (hw : Vars gl w) (ht : tabW i ρt w) (hsd : IntsAt w sd [(a.start : Int), (a.from_ : Int), (a.upto : Int)]) (hsn : IntsAt w sn [(a.limit : Int), (a.budget : Int)]) :
    Calls Tryz.prog 53 #[p, .agg #[.int .i64 2, strV loc, sd, sn, strV t]] w fun e w' => e = .returned (strV (repB i (pvN a 1 (spT a.r.freq a.start s1 s2)))) ∧ Below w.heap.size w w' := by
  have tA := Tryz.underlying133; have aA := Tryz.isAgg133; have zA := Tryz.sizeOf133; have uA := run_underlying Tryz.underlying133
  have tR := Tryz.underlying124; have aR := Tryz.isAgg124; have zR := Tryz.sizeOf124; have uR := run_underlying Tryz.underlying124
  have tQ := Tryz.underlying81; have aQ := Tryz.isAgg81; have zQ := Tryz.sizeOf81; have uQ := run_underlying Tryz.underlying81
  obtain ⟨bd, od, cd, rfl, hcd⟩ := ints_some hsd (by simp)
  obtain ⟨bn, on_, cn, rfl, hcn⟩ := ints_some hsn (by simp)
  have hp1 : p.oneCell' = true := hp.one
  obtain ⟨L, _, hpv, _⟩ := id hp
  subst hpv
  have hPw := hP (w.alloc (.cells #[.int .i64 2, strV loc, .slice (some ⟨bd, od, none⟩) 3 cd, .slice (some ⟨bn, on_, none⟩) 2 cn, strV t] 81)) (Varsb hw ((Below.refl _ w).alloc (Nat.le_refl _) _))
  have he := ht.2
  have qd0 := hcd 0 _ rfl
  have qd1 := hcd 1 _ rfl
  have qd2 := hcd 2 _ rfl
  have qn0 := hcn 0 _ rfl
  have qn1 := hcn 1 _ rfl
  have ltd : bd < w.heap.size := lt_of_cellZ qd0
  have ltn : bn < w.heap.size := lt_of_cellZ qn0
  have l1 : ¬ (1000 : Int) < (a.limit : Int) := by omega
  have l2 : ¬ (1000000 : Int) < (a.budget : Int) := by omega
  have hfin := pv_len (a := a) (k := 1) (s0 := spT a.r.freq a.start s1 s2)
  have hPv := fun (w3 : World) (sm sd sw sp : Value) (hb : Below w.heap.size w w3) (hv : RuleV w3 (.agg #[.int .i64 a.r.freq, .int .i64 1, .int .i64 a.r.count, .int .i64 a.r.til, sm, sd, sw, sp]) a.r) =>
    preview_calls a hr 1 (Nat.le_refl _) (by omega) s1 s2 hto (by omega) ⟨by omega, by omega⟩ ⟨by omega, by omega⟩ sm sd sw sp (Varsb hw hb) hv
  have HP := hidZ hPv
  unfold repB
  obtain ⟨o, ho⟩ : ∃ o, o = pvN a 1 (spT a.r.freq a.start s1 s2) := ⟨_, rfl⟩
  rw [← ho] at hne hfin ⊢
  have Ho := hidZ ho
  have hole : o.1.length ≤ 1000 := by omega
  have hsl : (okB8 o.1 o.2).length ≤ 100 := by
    unfold okB8
    have := (dec_ok (u := o.1.length) (by omega)).2
    simp only [List.length_append, List.length_cons, List.length_nil]
    cases o.2 <;> simp <;> omega
  have hal : (allL i (lstI o.1)).length ≤ 100000 := by
    have := allL_len hi (lstI o.1)
    have e : (lstI o.1).length = o.1.length := List.length_map _
    omega
  clear hPv ho hcd hcn
  unfold strV at hPw ⊢
  have E4 := hidZ (bcat (okB8 o.1 o.2) (allL i (lstI o.1)))
  generalize (⟨(okB8 o.1 o.2 ++ allL i (lstI o.1)).toArray⟩ : ByteArray) = res at E4 ⊢
  go_enter Tryz.func53, Tryz.ntmps53
  go_wp2_with fail
  refine hPw.mono ?_
  rintro e w2 ⟨v, rfl, hv, b2⟩
  obtain ⟨W1, hW1⟩ : ∃ W1, W1 = w.alloc (.cells #[.int .i64 2, .string ⟨loc.toArray⟩, .slice (some ⟨bd, od, none⟩) 3 cd, .slice (some ⟨bn, on_, none⟩) 2 cn, .string ⟨t.toArray⟩] 81) := ⟨_, rfl⟩
  have hc : ∀ j u, (#[.int .i64 2, .string ⟨loc.toArray⟩, .slice (some ⟨bd, od, none⟩) 3 cd, .slice (some ⟨bn, on_, none⟩) 2 cn, .string ⟨t.toArray⟩] : Array Value)[j]? = some u → W1.cell? ⟨w.heap.size, j, none⟩ = some u := fun j u hj => by
    rw [hW1, cell_new]; exact hj
  have hb1 : Below w.heap.size w W1 := by rw [hW1]; exact (Below.refl _ w).alloc (Nat.le_refl _) _
  have hs1 : W1.heap.size = w.heap.size + 1 := by rw [hW1]; simp
  rw [← hW1] at b2
  have hb2 : Below w.heap.size w w2 := hb1.trans (b2.mono (by omega))
  have x0 := (b2.cell (p := ⟨w.heap.size, 0, none⟩) (by show w.heap.size < _; omega)).trans (hc 0 _ rfl)
  have x1 := (b2.cell (p := ⟨w.heap.size, 1, none⟩) (by show w.heap.size < _; omega)).trans (hc 1 _ rfl)
  have x2 := (b2.cell (p := ⟨w.heap.size, 2, none⟩) (by show w.heap.size < _; omega)).trans (hc 2 _ rfl)
  have x3 := (b2.cell (p := ⟨w.heap.size, 3, none⟩) (by show w.heap.size < _; omega)).trans (hc 3 _ rfl)
  have x4 := (b2.cell (p := ⟨w.heap.size, 4, none⟩) (by show w.heap.size < _; omega)).trans (hc 4 _ rfl)
  have y0 := (hb2.cell (p := ⟨bd, od, none⟩) ltd).trans qd0
  have y1 := (hb2.cell (p := ⟨bd, od + 1, none⟩) ltd).trans qd1
  have y2 := (hb2.cell (p := ⟨bd, od + 2, none⟩) ltd).trans qd2
  have z0 := (hb2.cell (p := ⟨bn, on_, none⟩) ltn).trans qn0
  have z1 := (hb2.cell (p := ⟨bn, on_ + 1, none⟩) ltn).trans qn1
  clear qd0 qd1 qd2 qn0 qn1 hc hW1 hs1
  have hv0 := hv
  obtain ⟨sm, sd', sw, sp, rfl, g1, g2, g3, g4⟩ := hv
  obtain ⟨am, cm, rfl⟩ := intsAt_form g1
  obtain ⟨ad, cd', rfl⟩ := intsAt_form g2
  obtain ⟨aw, cw, rfl⟩ := nthsAt_form g3
  obtain ⟨ap, cp, rfl⟩ := intsAt_form g4
  clear g1 g2 g3 g4
  rw [hk] at hv0 ⊢
  have hb3 := hb2.alloc hb2.size (.cells #[.int .i64 a.r.freq, .int .i64 1, .int .i64 a.r.count, .int .i64 a.r.til, .slice am a.r.months.length cm, .slice ad a.r.days.length cd', .slice aw a.r.wdays.length cw, .slice ap a.r.pos.length cp] 124)
  have hPv := HP.out _ _ _ _ _ (belowDrew hb3) (ruleV_below hv0 (belowDrew ((Below.refl _ w2).alloc (Nat.le_refl _) _)))
  rw [← Ho.out] at hPv
  have eone : ((1 : Nat) : Int) = 1 := rfl
  rw [eone, hcnt, htil] at hPv
  rw [hcnt, htil] at hb3 ⊢
  clear eone hk hcnt htil
  obtain ⟨ob, hob⟩ : ∃ ob : Obj, ob = .cells #[.int .i64 a.r.freq, .int .i64 1, .int .i64 0, .int .i64 0, .slice am a.r.months.length cm, .slice ad a.r.days.length cd', .slice aw a.r.wdays.length cw, .slice ap a.r.pos.length cp] 124 := ⟨_, rfl⟩
  replace x0 := cell_keep ob x0
  replace x1 := cell_keep ob x1
  replace x2 := cell_keep ob x2
  replace x3 := cell_keep ob x3
  replace x4 := cell_keep ob x4
  replace y0 := cell_keep ob y0
  replace y1 := cell_keep ob y1
  replace y2 := cell_keep ob y2
  replace z0 := cell_keep ob z0
  replace z1 := cell_keep ob z1
  rw [hob] at x0 x1 x2 x3 x4 y0 y1 y2 z0 z1
  clear hob
  go_wp2_with fail
  rw [show decide ((1000 : Int) < (a.limit : Int)) = false from decide_eq_false (by omega), show decide ((1000000 : Int) < (a.budget : Int)) = false from decide_eq_false (by omega)]
  go_wp2_with fail
  refine wp_region_mid 22 (by kernel_rfl) (by kernel_rfl) ?_
  simp only [List.take_succ_cons, List.take_zero, List.drop_succ_cons, List.drop_zero]
  repeat still_step
  refine wpStill_nil ?_
  go_wp2_with fail
  refine hPv.mono ?_
  rintro e w5 ⟨u, rfl, hrow, b5⟩
  go_wp2_with fail
  show wpStill _ _ _ _ _ _
  repeat still_step
  refine wpStill_nil ?_
  have hb5 : Below w.heap.size w w5 := (belowDrew hb3).trans (b5.mono (belowDrew hb3).size)
  obtain ⟨ua, uc, hu⟩ := own_form hrow
  subst hu
  have hH : ∀ (W : World), Below w.heap.size w W → Calls Tryz.prog 75 #[.int .i64 (o.1.length : Int), .bool o.2] W fun e w' => e = .returned (.string ⟨(okB8 o.1 o.2).toArray⟩) ∧ Below W.heap.size W w' := fun W hW => head_calls o.1.length o.2 (by omega) (Varsb hw hW) (errV_below he hW)
  have hA := fun (W : World) (hW : Below w.heap.size w W) (hrw : W.ownsRow (w2.alloc (.cells #[.int .i64 a.r.freq, .int .i64 1, .int .i64 0, .int .i64 0, .slice am a.r.months.length cm, .slice ad a.r.days.length cd', .slice aw a.r.wdays.length cw, .slice ap a.r.pos.length cp] 124)).drew.heap.size 26 1 (.slice ua o.1.length uc) o.1.length (o.1.map dayV)) => day_all hi hp hne hole (Varsb hw hW) (tabW_below ht hW) hrw
  have E5 := hidZ E4.out
  clear E4
  generalize okB8 o.1 o.2 = kb at hsl hH E5
  generalize allL i (lstI o.1) = al at hal hA E5
  generalize o.2 = sh at hH ⊢
  go_wp2_with fail
  refine (hH w5 hb5).mono ?_
  rintro e w6 ⟨rfl, b6⟩
  have hb6 := hb5.trans (b6.mono hb5.size)
  have hrow6 := own_below hrow b6
  go_wp2_with fail
  refine (hA w6 hb6 hrow6).mono ?_
  rintro e w7 ⟨rfl, b7⟩
  have hb7 := hb6.trans (b7.mono hb6.size)
  go_wp2
  go_ret
  exact ⟨congrArg (fun x => Ending.returned (.string x)) E5.out, hb7⟩
end Go.Proofs.YtjhnpcnamclfbaaGreatDoor

/-! The server's reply to a preview as lines; requests of previews. -/
namespace Go.Proofs.YtjhnpcnamclfbaaGreatDoor
open Go Go.Eng Go.RowKit

/-! ### Lines -/
def nlZ : ByteArray := ⟨#[10]⟩
def partsZ (s : ByteArray) : List ByteArray := Lib.splitB nlZ 0 (Lib.countB s nlZ) s
theorem indexB_nlZ (s : ByteArray) : Lib.indexB s nlZ = Lib.indexByte s.data.toList 10 := Lib.index_one _ _
theorem partsZ_miss {s : ByteArray} (h : Lib.indexByte s.data.toList 10 = -1) : partsZ s = [s] := Lib.splitB_miss _ _ _ _ ((indexB_nlZ s).trans h)
theorem partsZ_hit {s : ByteArray} {i : Nat} (h : Lib.indexByte s.data.toList 10 = i) : partsZ s = s.extract 0 i :: partsZ (s.extract (i + 1) s.size) := by
  have hi := (indexB_nlZ s).trans h
  have hc : Lib.countB s nlZ = Lib.countB (s.extract (i + 1) s.size) nlZ + 1 := by
    have h2 : Lib.index s.data.toList [10] = i := (Lib.index_one _ _).trans h
    have := Lib.count_hit (sub := [10]) (by simp) h2
    show Lib.count s.data.toList [10] = Lib.count (s.extract (i + 1) s.size).data.toList [10] + 1
    rw [this, Nat.add_comm, Lib.extract_to_end]
    rfl
  unfold partsZ
  rw [hc, Lib.splitB_hit _ _ _ _ i hi]
  rfl
theorem indexByte_atZ : ∀ (a b : List UInt8), 10 ∉ a → Lib.indexByte (a ++ 10 :: b) 10 = (a.length : Int)
  | [], b, _ => by simp [Lib.indexByte]
  | x :: a, b, h => by
    have hx : x ≠ 10 := fun e => h (by rw [e]; exact List.mem_cons_self)
    have ih := indexByte_atZ a b (fun hm => h (List.mem_cons_of_mem _ hm))
    show Lib.indexByte (x :: (a ++ 10 :: b)) 10 = _
    unfold Lib.indexByte
    rw [ih]
    simp [hx]
theorem indexByte_noZ : ∀ (a : List UInt8), 10 ∉ a → Lib.indexByte a 10 = -1
  | [], _ => rfl
  | x :: a, h => by
    have hx : x ≠ 10 := fun e => h (by rw [e]; exact List.mem_cons_self)
    have ih := indexByte_noZ a (fun hm => h (List.mem_cons_of_mem _ hm))
    unfold Lib.indexByte
    rw [ih]
    simp [hx]
/-- Lines, a line feed between. -/
def nlS : List UInt8 → List (List UInt8) → List UInt8
  | a, [] => a
  | a, b :: l => a ++ 10 :: nlS b l
theorem partsZ_nlS : ∀ (l : List (List UInt8)) (a : List UInt8), 10 ∉ a → (∀ b ∈ l, 10 ∉ b) → partsZ ⟨(nlS a l).toArray⟩ = (a :: l).map fun x => (⟨x.toArray⟩ : ByteArray)
  | [], a, ha, _ => partsZ_miss (by show Lib.indexByte a.toArray.toList 10 = -1; rw [List.toList_toArray]; exact indexByte_noZ a ha)
  | b :: l, a, ha, hl => by
    have h1 : Lib.indexByte (⟨(nlS a (b :: l)).toArray⟩ : ByteArray).data.toList 10 = (a.length : Int) := by
      show Lib.indexByte ((a ++ 10 :: nlS b l).toArray).toList 10 = _
      rw [List.toList_toArray]
      exact indexByte_atZ a _ ha
    rw [partsZ_hit h1]
    have e1 : (⟨(nlS a (b :: l)).toArray⟩ : ByteArray).extract 0 a.length = ⟨a.toArray⟩ := by
      apply ByteArray.ext
      rw [ByteArray.data_extract]
      show ((a ++ 10 :: nlS b l).toArray).extract 0 a.length = a.toArray
      apply Array.ext'
      simp
    have e2 : (⟨(nlS a (b :: l)).toArray⟩ : ByteArray).extract (a.length + 1) (⟨(nlS a (b :: l)).toArray⟩ : ByteArray).size = ⟨(nlS b l).toArray⟩ := by
      apply ByteArray.ext
      apply Array.ext'
      rw [Lib.extract_to_end]
      show ((a ++ 10 :: nlS b l).toArray).toList.drop (a.length + 1) = (nlS b l).toArray.toList
      rw [List.toList_toArray, List.toList_toArray, List.drop_append]
      simp
    rw [e1, e2, partsZ_nlS l b (hl b List.mem_cons_self) fun c hc => hl c (List.mem_cons_of_mem _ hc)]
    rfl
theorem words10 : allB (fun k => allB (fun i => allB (fun c => Nat.blt c 256 && !Nat.beq c 10) (wdA k i)) w7 && allB (fun i => allB (fun c => Nat.blt c 256 && !Nat.beq c 10) (moA k i)) m12) k4 = true := by kernel_rfl
theorem toB_no10 {l : List Nat} (h : allB (fun c => Nat.blt c 256 && !Nat.beq c 10) l = true) : 10 ∉ toB l := by
  intro hm
  unfold toB at hm
  obtain ⟨c, hc, e⟩ := List.mem_map.1 hm
  have h1 := allB_spec h c hc
  rw [Bool.and_eq_true] at h1
  have h2 : c < 256 := Nat.le_of_ble_eq_true h1.1
  have h3 : c ≠ 10 := fun e => by rw [e] at h1; exact absurd h1.2 (by decide)
  have := congrArg UInt8.toNat e
  rw [UInt8.toNat_ofNat'] at this
  have h10 : (10 : UInt8).toNat = 10 := rfl
  rw [h10] at this
  omega
theorem dec_no10 (u : Nat) : 10 ∉ Lib.decDigits u := fun hm => by
  have := digits_all u 10 hm
  exact absurd this.1 (by decide)
theorem tail_no10 : ∀ {fs : List (List UInt8)} {t : List UInt8}, (∀ f ∈ fs, 10 ∉ f) → 10 ∉ t → 10 ∉ tailS fs t
  | [], t, _, ht => ht
  | f :: fs, t, hf, ht => by
    show 10 ∉ f ++ 32 :: tailS fs t
    have h1 := hf f List.mem_cons_self
    have h2 := tail_no10 (fs := fs) (t := t) (fun g hg => hf g (List.mem_cons_of_mem _ hg)) ht
    intro h
    rcases List.mem_append.1 h with h | h
    · exact h1 h
    · rcases List.mem_cons.1 h with h | h
      · exact absurd h (by decide)
      · exact h2 h
theorem line_no10 {i : Nat} (hi : i < 4) (z : Int) : 10 ∉ lineI i z := by
  unfold lineI
  split
  · rename_i h
    obtain ⟨y, mm, d, hd⟩ := dated z.toNat (by omega) (by omega)
    rw [lineF_eq hd]
    have hw := allB_spec words10 i (mem_k4 hi)
    rw [Bool.and_eq_true] at hw
    refine tail_no10 (fun f hf => ?_) (dec_no10 y)
    simp only [List.mem_cons, List.mem_nil_iff, or_false] at hf
    rcases hf with rfl | rfl | rfl
    · exact toB_no10 (allB_spec hw.1 _ (mem_w7 (Nat.mod_lt _ (by omega))))
    · exact dec_no10 d
    · exact toB_no10 (allB_spec hw.2 _ (mem_m12 (by have := hd.m1; have := hd.m2; omega)))
  · simp
theorem trim10 (s : List UInt8) : Lib.trimSuffix (s ++ [10]) [10] = s := by
  have h : Lib.hasSuffix (s ++ [10]) [10] = true := by simp [Lib.hasSuffix]
  unfold Lib.trimSuffix
  rw [if_pos h]
  simp

/-- A reply's first line. -/
def okH (out : List Nat) (sh : Bool) : List UInt8 := [111, 107, 32] ++ Lib.decDigits out.length ++ [32] ++ (if sh then [49] else [48])
theorem okH_no10 (out : List Nat) (sh : Bool) : 10 ∉ okH out sh := by
  unfold okH
  have := dec_no10 out.length
  cases sh <;> simp [this]
noncomputable def linesN (i : Nat) (out : List Nat) : List (List UInt8) := out.map fun (n : Nat) => lineI i (n : Int)
theorem allL_nl (i : Nat) : ∀ (a : List UInt8) (out : List Nat), a ++ 10 :: allL i (lstI out) = nlS a (linesN i out) ++ [10]
  | a, [] => rfl
  | a, n :: out => by
    have := allL_nl i (lineI i (n : Int)) out
    show a ++ 10 :: (lineI i (n : Int) ++ (10 :: allL i (lstI out))) = (a ++ 10 :: nlS (lineI i (n : Int)) (linesN i out)) ++ [10]
    rw [this]; simp
theorem repB_nl (i : Nat) (o : List Nat × Bool) : repB i o = nlS (okH o.1 o.2) (linesN i o.1) ++ [10] := by
  rw [← allL_nl]
  unfold repB okB8 okH
  simp
theorem parts_rep {i : Nat} (hi : i < 4) (o : List Nat × Bool) : partsZ ⟨(nlS (okH o.1 o.2) (linesN i o.1)).toArray⟩ = (okH o.1 o.2 :: linesN i o.1).map fun x => (⟨x.toArray⟩ : ByteArray) :=
  partsZ_nlS _ _ (okH_no10 _ _) fun b hb => by
    unfold linesN at hb
    obtain ⟨n, _, rfl⟩ := List.mem_map.1 hb
    exact line_no10 hi _
end Go.Proofs.YtjhnpcnamclfbaaGreatDoor

/-! server.Do at a preview's request; ask. -/
namespace Go.Proofs.YtjhnpcnamclfbaaGreatDoor
open Go Go.Eng Go.RowKit

/-- A preview asked for, all that is wanted of it. -/
structure Pv (i : Nat) (a : AskN) (t : List UInt8) : Prop where
  hi : i < 4
  hr : RuleOk a.r
  hk : a.r.interval = 1
  s1 : 1 ≤ a.start
  s2 : a.start ≤ lastN
  f1 : 1 ≤ a.from_
  f2 : a.from_ ≤ lastN
  u1 : 1 ≤ a.upto
  u2 : a.upto ≤ lastN
  hli : a.limit ≤ 1000
  hbu : a.budget ≤ 1000000
  htil : a.r.til = 0
  hcnt : a.r.count = 0
  hP : ParseTo t a.r
  ht : t.length ≤ 4000
  hne : (pvN a 1 (spT a.r.freq a.start s1 s2)).1 ≠ []
noncomputable def reqOf (i : Nat) (a : AskN) (t : List UInt8) : Req := ⟨lo i, a.start, a.from_, a.upto, a.limit, a.budget, t⟩
section
variable {i : Nat} {a : AskN} {t : List UInt8} (h : Pv i a t)
noncomputable def Pv.out : List Nat × Bool := pvN a 1 (spT a.r.freq a.start h.s1 h.s2)
include h in
theorem Pv.req : (reqOf i a t).OK := by
  have h4 := h.hi
  have hl := lo_ok (l := i) (by omega)
  have hli := h.hli
  have hbu := h.hbu
  refine ⟨hl.1, ?_, by have := hl.2; show (lo i).length ≤ 100; omega, ⟨h.s1, h.s2⟩, ⟨h.f1, h.f2⟩, ⟨h.u1, h.u2⟩, by show a.limit < _; omega, by show a.budget < _; omega, h.ht⟩
  show lo i ≠ []
  match i, h4 with
  | 0, _ | 1, _ | 2, _ | 3, _ => exact List.cons_ne_nil _ _
include h in
set_option maxRecDepth 100000 in
set_option maxHeartbeats 4000000 in
theorem Pv.do_calls {w : World} (hw : Vars gl w) (he : errV w) : Calls Tryz.prog 27 #[strV (reqOf i a t).s] w fun e w' => e = .returned (strV (repB i h.out)) ∧ Below w.heap.size w w' := by
  have tQ := Tryz.underlying81; have aQ := Tryz.isAgg81; have zQ := Tryz.sizeOf81; have uQ := run_underlying Tryz.underlying81
  have hD := Req.decode_calls h.req hw he
  have hN := fun (W : World) (hW : Below w.heap.size w W) => named_calls (Varsb hw hW) h.hi
  have l7 : lastN = 3652059 := rfl
  have u2 := h.u2
  have f2 := h.f2
  have hR := fun (W : World) (ρt : Rho) (p : Value) (hp : PtrX i ρt p) (sd sn : Value) (hW : Below w.heap.size w W) (ht : tabW i ρt W) (g1 : IntsAt W sd [(a.start : Int), (a.from_ : Int), (a.upto : Int)]) (g2 : IntsAt W sn [(a.limit : Int), (a.budget : Int)]) =>
    ruled_calls h.hi hp a h.hr h.hk h.s1 h.s2 (by omega) h.hli h.hbu h.htil h.hcnt (by omega) (lo i) t sd sn h.hP h.hne (Varsb hw hW) ht g1 g2
  unfold strV at hR
  have HR := hidZ hR
  clear hR l7 u2 f2
  unfold strV at hD hN ⊢
  generalize hs : (⟨((reqOf i a t).s).toArray⟩ : ByteArray) = S at hD ⊢
  clear hs
  show Calls Tryz.prog _ _ _ fun e w' => e = .returned (.string ⟨(repB i (pvN a 1 (spT a.r.freq a.start h.s1 h.s2))).toArray⟩) ∧ _
  generalize (⟨(repB i (pvN a 1 (spT a.r.freq a.start h.s1 h.s2))).toArray⟩ : ByteArray) = res at HR ⊢
  have hloc : (reqOf i a t).loc = lo i := rfl
  have ht0 : (reqOf i a t).t = t := rfl
  rw [hloc, ht0] at hD
  go_enter Tryz.func27, Tryz.ntmps27
  go_wp2_with fail
  refine hD.mono ?_
  rintro e w2 ⟨sd, sn, rfl, g1, g2, b2⟩
  obtain ⟨bd, od, cd, rfl, _⟩ := ints_some g1 (by simp)
  obtain ⟨bn, on_, cn, rfl, _⟩ := ints_some g2 (by simp)
  have hN2 := hN ((w2.alloc (.cells #[.int .i64 2, .string ⟨(lo i).toArray⟩, .slice (some ⟨bd, od, none⟩) 3 cd, .slice (some ⟨bn, on_, none⟩) 2 cn, .string ⟨t.toArray⟩] 81))) (b2.alloc b2.size _)
  go_wp2_with fail
  refine hN2.mono ?_
  rintro e w3 ⟨p, rfl, hp1, b3, ρt, hX, hpx, _⟩
  have hp0 := hpx
  obtain ⟨L, _, hpv, _⟩ := hpx
  subst hpv
  obtain ⟨W1, hW1⟩ : ∃ W1, W1 = w2.alloc (.cells #[.int .i64 2, .string ⟨(lo i).toArray⟩, .slice (some ⟨bd, od, none⟩) 3 cd, .slice (some ⟨bn, on_, none⟩) 2 cn, .string ⟨t.toArray⟩] 81) := ⟨_, rfl⟩
  have hc : ∀ j u, (#[.int .i64 2, .string ⟨(lo i).toArray⟩, .slice (some ⟨bd, od, none⟩) 3 cd, .slice (some ⟨bn, on_, none⟩) 2 cn, .string ⟨t.toArray⟩] : Array Value)[j]? = some u → W1.cell? ⟨w2.heap.size, j, none⟩ = some u := fun j u hj => by
    rw [hW1, cell_new]; exact hj
  have hb1 : Below w.heap.size w W1 := by rw [hW1]; exact b2.alloc b2.size _
  have hs1 : W1.heap.size = w2.heap.size + 1 := by rw [hW1]; simp
  have hb12 : Below w2.heap.size w2 W1 := by rw [hW1]; exact (Below.refl _ w2).alloc (Nat.le_refl _) _
  rw [← hW1] at b3
  have hb3 : Below w.heap.size w w3 := hb1.trans (b3.mono hb1.size)
  have hb23 : Below w2.heap.size w2 w3 := hb12.trans (b3.mono hb12.size)
  have x0 := (b3.cell (p := ⟨w2.heap.size, 0, none⟩) (by show w2.heap.size < _; omega)).trans (hc 0 _ rfl)
  have x1 := (b3.cell (p := ⟨w2.heap.size, 1, none⟩) (by show w2.heap.size < _; omega)).trans (hc 1 _ rfl)
  have x2 := (b3.cell (p := ⟨w2.heap.size, 2, none⟩) (by show w2.heap.size < _; omega)).trans (hc 2 _ rfl)
  have x3 := (b3.cell (p := ⟨w2.heap.size, 3, none⟩) (by show w2.heap.size < _; omega)).trans (hc 3 _ rfl)
  have x4 := (b3.cell (p := ⟨w2.heap.size, 4, none⟩) (by show w2.heap.size < _; omega)).trans (hc 4 _ rfl)
  have hRul := HR.out w3 ρt _ hp0 _ _ hb3 ⟨hX, errV_below he hb3⟩ (intsAt_below g1 hb23) (intsAt_below g2 hb23)
  clear hc hW1 hs1 hN2 hN hD
  go_wp2_with fail
  refine hRul.mono ?_
  rintro e w5 ⟨rfl, b5⟩
  go_wp2
  go_ret
  exact ⟨rfl, hb3.trans (b5.mono hb3.size)⟩
theorem maxLen_vars {w : World} (hw : Vars gl w) : ∃ m : Int, w.cell? ⟨gMax, 0, none⟩ = some (.int .i64 m) := by
  obtain ⟨m, hm⟩ := hw
  obtain ⟨ρ, hR⟩ := hm (withM (fun _ => .nilIface) m) (withM_kM _ _)
  exact ⟨m, maxLen_cell hR gl_has (withM_kM (fun _ => .nilIface) m)⟩
theorem nlS_len : ∀ (l : List (List UInt8)) (a : List UInt8) (n : Nat), (∀ b ∈ l, b.length ≤ n) → (nlS a l).length ≤ a.length + l.length * (n + 1)
  | [], a, n, _ => by simp [nlS]
  | b :: l, a, n, h => by
    have ih := nlS_len l b n fun c hc => h c (List.mem_cons_of_mem _ hc)
    have hb := h b List.mem_cons_self
    show (a ++ 10 :: nlS b l).length ≤ _
    rw [List.length_append, List.length_cons, List.length_cons, Nat.succ_mul]
    omega
include h in
set_option maxRecDepth 100000 in
set_option maxHeartbeats 4000000 in
theorem Pv.ask_calls {w : World} (hw : Vars gl w) (he : errV w) : Calls Tryz.prog 10 #[strV (reqOf i a t).s] w fun e w' => ∃ B c, e = .returned (.tuple #[.slice (some ⟨B, 1, none⟩) h.out.1.length c, strV (okH h.out.1 h.out.2)]) ∧
    (∀ (j : Nat) x, (linesN i h.out.1)[j]? = some x → w'.cell? ⟨B, 1 + j, none⟩ = some (strV x)) ∧ w.heap.size ≤ B ∧ B < w'.heap.size ∧ Below w.heap.size w w' := by
  have hD := h.do_calls hw he
  have hlen : h.out.1.length ≤ 1000 := Nat.le_trans pv_len h.hli
  have hnz : ¬ h.out.1.length = 0 := fun e => h.hne (List.eq_nil_of_length_eq_zero e)
  have hll : (linesN i h.out.1).length = h.out.1.length := List.length_map _
  have hno : (nlS (okH h.out.1 h.out.2) (linesN i h.out.1)).length ≤ 200000 := by
    have h1 := nlS_len (linesN i h.out.1) (okH h.out.1 h.out.2) 60 fun b hb => by
      unfold linesN at hb
      obtain ⟨n, _, rfl⟩ := List.mem_map.1 hb
      exact lineI_len h.hi _
    have h2 : (okH h.out.1 h.out.2).length ≤ 100 := by
      unfold okH
      have := (dec_ok (u := h.out.1.length) (by omega)).2
      cases h.out.2 <;> simp <;> omega
    omega
  have hT := fun (W : World) => Tryz.strings_TrimSuffix ⟨(repB i h.out).toArray⟩ ⟨#[10]⟩ W (by
    show (repB i h.out).toArray.size ≤ _
    rw [List.size_toArray, repB_nl, List.length_append, List.length_singleton]; omega)
  have et : (⟨(Lib.trimSuffix (⟨(repB i h.out).toArray⟩ : ByteArray).data.toList (⟨#[10]⟩ : ByteArray).data.toList).toArray⟩ : ByteArray) = ⟨(nlS (okH h.out.1 h.out.2) (linesN i h.out.1)).toArray⟩ := by
    show (⟨(Lib.trimSuffix (repB i h.out).toArray.toList [10]).toArray⟩ : ByteArray) = _
    rw [List.toList_toArray, repB_nl, trim10]
  rw [et] at hT
  have hp := parts_rep h.hi h.out
  have hn := okH_no10 h.out.1 h.out.2
  have hS := fun (W : World) (m : Int) (hm : W.cell? ⟨gMax, 0, none⟩ = some (.int .i64 m)) => Tryz.strings_Split ⟨(nlS (okH h.out.1 h.out.2) (linesN i h.out.1)).toArray⟩ ⟨#[10]⟩ m W (by
    show (nlS (okH h.out.1 h.out.2) (linesN i h.out.1)).toArray.size < _
    rw [List.size_toArray]; omega) hm (by decide)
  have hc : Lib.countB ⟨(nlS (okH h.out.1 h.out.2) (linesN i h.out.1)).toArray⟩ ⟨#[10]⟩ = h.out.1.length := by
    have h1 : (partsZ ⟨(nlS (okH h.out.1 h.out.2) (linesN i h.out.1)).toArray⟩).length = h.out.1.length + 1 := by rw [hp, List.length_map, List.length_cons, hll]
    have h2 : (partsZ ⟨(nlS (okH h.out.1 h.out.2) (linesN i h.out.1)).toArray⟩).length = Lib.countB ⟨(nlS (okH h.out.1 h.out.2) (linesN i h.out.1)).toArray⟩ nlZ + 1 := Lib.splitB_all nlZ (by decide) 0 _ _ rfl
    have : Lib.countB ⟨(nlS (okH h.out.1 h.out.2) (linesN i h.out.1)).toArray⟩ nlZ = h.out.1.length := by omega
    exact this
  have hS2 : ∀ (W : World) (m : Int), W.cell? ⟨gMax, 0, none⟩ = some (.int .i64 m) → Calls Tryz.prog 25 #[.string ⟨(nlS (okH h.out.1 h.out.2) (linesN i h.out.1)).toArray⟩, .string ⟨#[10]⟩] W fun e w' => e = .returned (.slice (some ⟨W.heap.size, 0, none⟩) (h.out.1.length + 1) (h.out.1.length + 1)) ∧ w' = W.alloc (.cells ((okH h.out.1 h.out.2 :: linesN i h.out.1).map strV).toArray 9) := fun W m hm => by
    refine (hS W m hm).mono ?_
    rintro e w' ⟨rfl, rfl⟩
    have e2 : (Lib.splitB ⟨#[10]⟩ 0 (Lib.countB ⟨(nlS (okH h.out.1 h.out.2) (linesN i h.out.1)).toArray⟩ ⟨#[10]⟩) ⟨(nlS (okH h.out.1 h.out.2) (linesN i h.out.1)).toArray⟩) = (okH h.out.1 h.out.2 :: linesN i h.out.1).map fun x => (⟨x.toArray⟩ : ByteArray) := hp
    rw [e2, hc, List.map_map]
    exact ⟨rfl, rfl⟩
  have hcells : ∀ (W : World), (W.alloc (.cells ((okH h.out.1 h.out.2 :: linesN i h.out.1).map strV).toArray 9)).cell? ⟨W.heap.size, 0, none⟩ = some (strV (okH h.out.1 h.out.2)) ∧ ∀ (j : Nat) x, (linesN i h.out.1)[j]? = some x → (W.alloc (.cells ((okH h.out.1 h.out.2 :: linesN i h.out.1).map strV).toArray 9)).cell? ⟨W.heap.size, 1 + j, none⟩ = some (strV x) := fun W => by
    constructor
    · rw [cell_new]; simp
    · intro j x hj
      rw [cell_new]
      simp only [List.getElem?_toArray, List.getElem?_map]
      rw [Nat.add_comm 1 j, List.getElem?_cons_succ, hj]
      rfl
  clear hS hc hp hn hno hll et
  obtain ⟨CL, hCL⟩ : ∃ CL, CL = ((okH h.out.1 h.out.2 :: linesN i h.out.1).map strV).toArray := ⟨_, rfl⟩
  rw [← hCL] at hS2
  have hcells2 : ∀ (W : World), (W.alloc (.cells CL 9)).cell? ⟨W.heap.size, 0, none⟩ = some (strV (okH h.out.1 h.out.2)) ∧ ∀ (j : Nat) x, (linesN i h.out.1)[j]? = some x → (W.alloc (.cells CL 9)).cell? ⟨W.heap.size, 1 + j, none⟩ = some (strV x) := by rw [hCL]; exact hcells
  have HC := hidZ hcells2
  clear hcells hcells2 hCL
  unfold strV at hD HC ⊢
  generalize (⟨((reqOf i a t).s).toArray⟩ : ByteArray) = S at hD ⊢
  generalize (⟨(repB i h.out).toArray⟩ : ByteArray) = R8 at hD hT
  generalize (⟨(nlS (okH h.out.1 h.out.2) (linesN i h.out.1)).toArray⟩ : ByteArray) = N8 at hT hS2
  generalize (⟨(okH h.out.1 h.out.2).toArray⟩ : ByteArray) = K8 at HC ⊢
  generalize h.out.1.length = n at hlen hS2 hnz ⊢
  generalize linesN i h.out.1 = LL at HC ⊢
  have HM := hidZ (fun (W : World) (hW : Below w.heap.size w W) => maxLen_vars (Varsb hw hW))
  go_enter Tryz.func10, Tryz.ntmps10
  go_wp2_with fail
  refine hD.mono ?_
  rintro e w2 ⟨rfl, b2⟩
  go_wp2_with fail
  refine (hT w2).mono ?_
  rintro e w3 ⟨rfl, rfl⟩
  obtain ⟨m, hm⟩ := HM.out _ b2
  go_wp2_with fail
  refine (hS2 _ m hm).mono ?_
  rintro e w4 ⟨rfl, rfl⟩
  have k0 := (HC.out w3).1
  have p1 : (1 : Int) ≤ (n : Int) + 1 := by omega
  have p2 : (0 : Int) < (n : Int) + 1 := by omega
  go_wp2_with fail
  go_quiet (fail)
  go_wp2
  have hb4 : Below w.heap.size w ((w3.alloc (.cells CL 9)).drewN nq) := belowDrewN (b2.alloc b2.size _) nq
  refine bodyPost_ret (v := .tuple #[.slice (some ⟨w3.heap.size, 1, none⟩) n n, .string K8]) (by simp [results, Tryz.results10, go_sem]) rfl ⟨w3.heap.size, n, rfl, fun j x hj => (HC.out w3).2 j x hj, b2.size, ?_, hb4⟩
  show w3.heap.size < (w3.alloc (.cells CL 9)).heap.size
  simp
end
end Go.Proofs.YtjhnpcnamclfbaaGreatDoor

/-! Runs of closed calls, by the kernel. -/
namespace Go.Proofs.YtjhnpcnamclfbaaGreatDoor
open Go Go.Eng

set_option maxRecDepth 100000
theorem run19 : imgRun (EM [(94, yes), (43, englishImg), (44, germanImg), (45, frenchImg), (46, polishImg), (104, phrasesImg)]) gl 63 80000 [] yes = true := by kernel_rfl
theorem know19 : KnownI Tryz.prog gl 63 yes := knows [(94, yes), (43, englishImg), (44, germanImg), (45, frenchImg), (46, polishImg), (104, phrasesImg)] (by
  intro x hx
  simp only [List.mem_cons, List.mem_nil_iff, or_false] at hx
  rcases hx with rfl | rfl | rfl | rfl | rfl | rfl
  · exact know18
  · exact knowenglish
  · exact knowgerman
  · exact knowfrench
  · exact knowpolish
  · exact knowphrases) run19

end Go.Proofs.YtjhnpcnamclfbaaGreatDoor

/-! Runs of closed calls, by the kernel. -/
namespace Go.Proofs.YtjhnpcnamclfbaaGreatDoor
open Go Go.Eng

set_option maxRecDepth 100000
theorem run20 : imgRun (EM [(63, yes), (43, englishImg), (44, germanImg), (45, frenchImg), (46, polishImg), (104, phrasesImg)]) gl 39 80000 [] yes = true := by kernel_rfl
theorem know20 : KnownI Tryz.prog gl 39 yes := knows [(63, yes), (43, englishImg), (44, germanImg), (45, frenchImg), (46, polishImg), (104, phrasesImg)] (by
  intro x hx
  simp only [List.mem_cons, List.mem_nil_iff, or_false] at hx
  rcases hx with rfl | rfl | rfl | rfl | rfl | rfl
  · exact know19
  · exact knowenglish
  · exact knowgerman
  · exact knowfrench
  · exact knowpolish
  · exact knowphrases) run20

end Go.Proofs.YtjhnpcnamclfbaaGreatDoor

/-! Runs of closed calls, by the kernel. -/
namespace Go.Proofs.YtjhnpcnamclfbaaGreatDoor
open Go Go.Eng

set_option maxRecDepth 100000
theorem run21 : imgRun (EM [(39, yes), (43, englishImg), (44, germanImg), (45, frenchImg), (46, polishImg), (104, phrasesImg)]) gl 23 80000 [] yes = true := by kernel_rfl
theorem know21 : KnownI Tryz.prog gl 23 yes := knows [(39, yes), (43, englishImg), (44, germanImg), (45, frenchImg), (46, polishImg), (104, phrasesImg)] (by
  intro x hx
  simp only [List.mem_cons, List.mem_nil_iff, or_false] at hx
  rcases hx with rfl | rfl | rfl | rfl | rfl | rfl
  · exact know20
  · exact knowenglish
  · exact knowgerman
  · exact knowfrench
  · exact knowpolish
  · exact knowphrases) run21

end Go.Proofs.YtjhnpcnamclfbaaGreatDoor

/-! What the laws call. -/
namespace Go.Proofs.YtjhnpcnamclfbaaGreatDoor
open Go Go.Eng Go.RowKit

theorem awake_calls {w : World} (hw : Vars gl w) : Calls Tryz.prog 8 #[] w fun e w' => e = .returned (.bool true) ∧ Below w.heap.size w w' := by
  have h21 : Calls Tryz.prog 23 #[] w fun e w' => e = .returned (.bool true) ∧ Below w.heap.size w w' := by
    obtain ⟨m, hm⟩ := hw
    obtain ⟨ρ, hR⟩ := hm (withM (fun _ => .nilIface) m) (withM_kM _ _)
    refine (know21 _ _ _ _ _ hR gl_has _ _ rfl).mono ?_
    rintro e w' ⟨u, ρ', rfl, _, hu, _, hK⟩
    have hu : u = .bool true := hu
    subst hu
    exact ⟨rfl, hK.at⟩
  go_enter Tryz.func8, Tryz.ntmps8
  go_wp2_with fail
  refine h21.mono ?_
  rintro e w2 ⟨rfl, b2⟩
  go_wp2
  go_ret
  exact ⟨rfl, b2⟩
noncomputable def nm0 (b : Blk) (m : List Nat) : Bool := match b with | .cells (.str l :: _) _ _ => eqNats l m | _ => false
theorem nm0_spec {b : Blk} {m : List Nat} (h : nm0 b m = true) : ∃ cs el wr, b = .cells (.str m :: cs) el wr := by
  unfold nm0 at h
  split at h
  · rename_i l cs el wr
    rw [eqNats_id h]
    exact ⟨cs, el, wr, rfl⟩
  · cases h
theorem tab0 : allB (fun k => match (tabX k).head? with | some b => nm0 b (pick [] locs4 k) | _ => false) k4 = true := by kernel_rfl
/-- A table's name. -/
theorem tab_name {i : Nat} {ρt : Rho} (hi : i < 4) {p : Value} (hp : PtrX i ρt p) {w : World} (ht : tabW i ρt w) : ∃ b o, p = .pointer (some ⟨b, o, none⟩) ∧ b < w.heap.size ∧ w.cell? ⟨b, o, none⟩ = some (strV (lo i)) := by
  obtain ⟨L, hL, rfl, hx⟩ := hp
  have h0 := allB_spec tab0 i (mem_k4 hi)
  cases hb : tabX i with
  | nil => rw [hb] at h0; cases h0
  | cons b bs =>
    rw [hb] at h0
    obtain ⟨L', ob, e1, e2, e3⟩ := ht.1 0 b (by rw [hb]; rfl)
    have hLL : L = L' := by
      have : ρt xN = some L' := e1
      rw [hL] at this; cases this; rfl
    subst hLL
    refine ⟨_, _, rfl, (Array.getElem?_eq_some_iff.1 e2).1, ?_⟩
    obtain ⟨cs, el, wr, rfl⟩ := nm0_spec h0
    obtain ⟨c, t, fr, rfl, _, _, hc, _⟩ := e3 (fun _ => .nilIface)
    obtain ⟨y, hy, s, rfl, hs⟩ := cells_known (i := 0) (a := .str (pick [] locs4 i)) hc rfl
    have ho : (⟨L.blk, L.sh, none⟩ : Addr) = ⟨L.blk, L.sh + 0, none⟩ := rfl
    rw [cell_at e2, ← Nat.add_zero L.sh, hy]
    have e4 : s = ⟨(lo i).toArray⟩ := bytesNat_inj (by
      rw [hs, ← lo_locs hi]
      exact (str_bytes rfl).symm ▸ (by show nats (lo i) = _; rw [List.toList_toArray]; rfl))
    rw [e4]; rfl
end Go.Proofs.YtjhnpcnamclfbaaGreatDoor

/-! A preview's request, written. -/
namespace Go.Proofs.YtjhnpcnamclfbaaGreatDoor
open Go Go.Eng Go.RowKit

theorem dig5000 : Lib.decDigits 5000 = [53, 48, 48, 48] := by
  simp [Lib.decDigits]
theorem wd2 : wd 2 = [112, 114, 101, 118, 105, 101, 119] := rfl
set_option maxRecDepth 100000 in
set_option maxHeartbeats 4000000 in
theorem list_calls {i : Nat} {a : AskN} {t : List UInt8} (h : Pv i a t) (hf : a.from_ = a.start) (hb : a.budget = 5000) (lg : Nat) (hl : a.upto = a.start + lg) {w : World} (hw : Vars gl w) (he : errV w) :
    Calls Tryz.prog 17 #[strV (lo i), .int .i64 (a.start : Int), .int .i64 (lg : Int), .int .i64 (a.limit : Int), strV t] w fun e w' => e = .returned (strV (reqOf i a t).s) ∧ Below w.heap.size w w' := by
  have l7 : lastN = 3652059 := rfl
  have u2 := h.u2
  have hli := h.hli
  have hT1 := fun (W : World) (hW : Below w.heap.size w W) => text_calls h.s1 h.s2 (Varsb hw hW) (errV_below he hW)
  have hT2 := fun (W : World) (hW : Below w.heap.size w W) => text_calls h.u1 h.u2 (Varsb hw hW) (errV_below he hW)
  have hI := fun (W : World) (hW : Below w.heap.size w W) => itoa_calls (n := a.limit) (by omega) (Varsb hw hW) (errV_below he hW)
  have b1 := (Req.dtx_ok ⟨h.s1, h.s2⟩).2
  have b2 := (Req.dtx_ok ⟨h.u1, h.u2⟩).2
  have b3 := (dec_ok (u := a.limit) (by omega)).2
  have b4 := (lo_ok (l := i) (by have := h.hi; omega)).2
  have b5 := h.ht
  have eu : (a.upto : Int) = (a.start : Int) + (lg : Int) := by omega
  rw [eu] at hT2
  have E0 : (reqOf i a t).s = [112, 114, 101, 118, 105, 101, 119, 32] ++ lo i ++ [32] ++ dtx a.start ++ [32] ++ dtx a.start ++ [32] ++ dtx a.upto ++ [32] ++ Lib.decDigits a.limit ++ [32, 53, 48, 48, 48, 32] ++ t := by
    show tailS [wd 2, lo i, dtx a.start, dtx a.from_, dtx a.upto, Lib.decDigits a.limit, Lib.decDigits a.budget] t = _
    rw [hf, hb, dig5000, wd2]
    simp [tailS]
  rw [E0]
  have hs2 : a.start ≤ 3652059 := h.s2
  have hlg : lg ≤ 3652059 := by omega
  clear E0 u2 eu hl hf hb
  generalize lo i = A1 at b4 ⊢
  generalize dtx a.start = A2 at b1 hT1 ⊢
  generalize dtx a.upto = A3 at b2 hT2 ⊢
  generalize Lib.decDigits a.limit = A4 at b3 hI ⊢
  have e1 := bcat [112, 114, 101, 118, 105, 101, 119, 32] A1
  have e2 := bcat ([112, 114, 101, 118, 105, 101, 119, 32] ++ A1) [32]
  have e3 := bcat ([112, 114, 101, 118, 105, 101, 119, 32] ++ A1 ++ [32]) A2
  have e4 := bcat ([112, 114, 101, 118, 105, 101, 119, 32] ++ A1 ++ [32] ++ A2) [32]
  have e5 := bcat ([112, 114, 101, 118, 105, 101, 119, 32] ++ A1 ++ [32] ++ A2 ++ [32]) A2
  have e6 := bcat ([112, 114, 101, 118, 105, 101, 119, 32] ++ A1 ++ [32] ++ A2 ++ [32] ++ A2) [32]
  have e7 := bcat ([112, 114, 101, 118, 105, 101, 119, 32] ++ A1 ++ [32] ++ A2 ++ [32] ++ A2 ++ [32]) A3
  have e8 := bcat ([112, 114, 101, 118, 105, 101, 119, 32] ++ A1 ++ [32] ++ A2 ++ [32] ++ A2 ++ [32] ++ A3) [32]
  have e9 := bcat ([112, 114, 101, 118, 105, 101, 119, 32] ++ A1 ++ [32] ++ A2 ++ [32] ++ A2 ++ [32] ++ A3 ++ [32]) A4
  have e10 := bcat ([112, 114, 101, 118, 105, 101, 119, 32] ++ A1 ++ [32] ++ A2 ++ [32] ++ A2 ++ [32] ++ A3 ++ [32] ++ A4) [32, 53, 48, 48, 48, 32]
  have e11 := bcat ([112, 114, 101, 118, 105, 101, 119, 32] ++ A1 ++ [32] ++ A2 ++ [32] ++ A2 ++ [32] ++ A3 ++ [32] ++ A4 ++ [32, 53, 48, 48, 48, 32]) t
  rw [← e1] at e2
  rw [← e2] at e3
  rw [← e3] at e4
  rw [← e4] at e5
  rw [← e5] at e6
  rw [← e6] at e7
  rw [← e7] at e8
  rw [← e8] at e9
  rw [← e9] at e10
  rw [← e10] at e11
  have E := hidZ e11
  clear e1 e2 e3 e4 e5 e6 e7 e8 e9 e10 e11
  unfold strV at hT1 hT2 hI ⊢
  generalize (⟨([112, 114, 101, 118, 105, 101, 119, 32] ++ A1 ++ [32] ++ A2 ++ [32] ++ A2 ++ [32] ++ A3 ++ [32] ++ A4 ++ [32, 53, 48, 48, 48, 32] ++ t).toArray⟩ : ByteArray) = res at E ⊢
  have HH := hidZ h
  clear h
  go_enter Tryz.func17, Tryz.ntmps17
  go_wp2_with fail
  refine (hT1 w (Below.refl _ w)).mono ?_
  rintro e w2 ⟨rfl, q2⟩
  go_wp2_with fail
  refine (hT1 w2 q2).mono ?_
  rintro e w3 ⟨rfl, q3⟩
  have q3' := q2.trans (q3.mono q2.size)
  go_wp2_with fail
  refine (hT2 w3 q3').mono ?_
  rintro e w4 ⟨rfl, q4⟩
  have q4' := q3'.trans (q4.mono q3'.size)
  go_wp2_with fail
  refine (hI w4 q4').mono ?_
  rintro e w5 ⟨rfl, q5⟩
  have q5' := q4'.trans (q5.mono q4'.size)
  go_wp2
  go_ret
  exact ⟨congrArg (fun x => Ending.returned (.string x)) E.out, q5'⟩
end Go.Proofs.YtjhnpcnamclfbaaGreatDoor

/-! What a preview of weeks, months, years lists. TopMonthdays. -/
namespace Go.Proofs.YtjhnpcnamclfbaaGreatDoor
open Go Go.Eng Go.RowKit

theorem from_upto {T : Nat → Bool} {s u : Nat} (hu : s ≤ u + 1) (hl : u ≤ lastN) : fromTo (fun x => T x && decide (x ≤ u)) s (lastN + 1) = fromTo T s (u + 1) := by
  rw [fromTo_cat _ hu (show u + 1 ≤ lastN + 1 by omega)]
  have e1 : fromTo (fun x => T x && decide (x ≤ u)) (u + 1) (lastN + 1) = [] := fromTo_none fun x h1 _ => by
    have : decide (x ≤ u) = false := decide_eq_false (by omega)
    rw [this, Bool.and_false]
  have e2 : fromTo (fun x => T x && decide (x ≤ u)) s (u + 1) = fromTo T s (u + 1) := by
    unfold fromTo
    apply List.filter_congr
    intro x hx
    rw [List.mem_range'_1] at hx
    have : decide (x ≤ u) = true := decide_eq_true (by omega)
    rw [this, Bool.and_true]
  rw [e1, e2, List.append_nil]
/-! ### Days of months from behind -/
def askMd (d k : Nat) : AskN := ⟨rMd k, d, d, d + 2000, 12, 5000⟩
theorem pv_md {i d k : Nat} (hi : i < 4) (h1 : 1 ≤ d) (h2 : d ≤ 3600000) (k1 : 1 ≤ k) (k2 : k ≤ 31) : ∃ h : Pv i (askMd d k) (toB (tx5 k)), h.out.1.length = 12 ∧ h.out.2 = false ∧ ∀ x ∈ h.out.1, 1 ≤ x ∧ x ≤ lastN ∧ monthN x + 1 = (dateN x).2.2 + k := by
  have l7 : lastN = 3652059 := rfl
  have hok : RuleOk (rMd k) := ⟨by simp [rMd], by simp [rMd], by simp [rMd], fun x hx => by simp [rMd] at hx, by simp [rMd]⟩
  have hlen : (toB (tx5 k)).length ≤ 4000 := by
    have : ∀ k, k < 32 → (toB (tx5 k)).length ≤ 4000 := by decide
    exact this k (by omega)
  have s2 : d ≤ lastN := by omega
  have he : pvN (askMd d k) 1 (spT (askMd d k).r.freq (askMd d k).start h1 s2) = ((fromTo (fun x => hasN (rMd k) d x && decide (x ≤ d + 2000)) d (lastN + 1)).take 12, false) := by
    refine pv_eq rfl rfl rfl (by show 0 < 12; omega) touch2 (T := hasN (rMd k) d) (fun s hs => in_has own2 s hs) h1 s2 fun j s hj hs => ?_
    show j < 5000
    cases j with
    | zero => omega
    | succ j =>
      have h3 := atN_far (f := 2) touch2 28 (fun n a b _ => (ml2 n a b).1) ⟨_, h1, s2, rfl⟩ hj
      have h4 := (perN_ok 2 h1 s2).2.1
      have h5 : d ≤ (spT (askMd d k).r.freq (askMd d k).start h1 s2).1.2 := h4
      have h6 : s.1.1 ≤ d + 2000 := hs
      omega
  have hcnt : 12 ≤ (fromTo (hasN (rMd k) d) d (d + 2000 + 1)).length := by
    have := count_win (T := hasN (rMd k) d) (W := 93) (top := lastN) (win_md k1 k2) 12 d h1 (by omega)
    have := count_mono (T := hasN (rMd k) d) (a := d) (show d + 93 * 12 ≤ d + 2000 + 1 by omega)
    omega
  rw [from_upto (by omega) (by omega)] at he
  have hl : ((fromTo (hasN (rMd k) d) d (d + 2000 + 1)).take 12).length = 12 := by rw [List.length_take]; omega
  have hP : Pv i (askMd d k) (toB (tx5 k)) := ⟨hi, hok, rfl, h1, s2, h1, s2, by show 1 ≤ d + 2000; omega, by show d + 2000 ≤ lastN; omega, by show 12 ≤ 1000; omega, by show 5000 ≤ 1000000; omega, rfl, rfl, pt5 k1 k2, hlen, by
    rw [he]
    intro e
    have e : (fromTo (hasN (rMd k) d) d (d + 2000 + 1)).take 12 = [] := e
    rw [e] at hl; cases hl⟩
  have ho : hP.out = ((fromTo (hasN (rMd k) d) d (d + 2000 + 1)).take 12, false) := he
  refine ⟨hP, by rw [ho]; exact hl, by rw [ho], fun x hx => ?_⟩
  rw [ho] at hx
  obtain ⟨q1, q2, q3⟩ := mem_fromTo.1 (List.mem_of_mem_take hx)
  exact ⟨by omega, by omega, (has_md (by omega) (by omega) k1).1 q3⟩
theorem okH12 : okH (List.replicate 12 0) false = [111, 107, 32, 49, 50, 32, 48] := by
  unfold okH
  simp [Lib.decDigits]
theorem okH_len {out : List Nat} {sh : Bool} {n : Nat} (h : out.length = n) : okH out sh = okH (List.replicate n 0) sh := by
  unfold okH
  rw [h, List.length_replicate]
end Go.Proofs.YtjhnpcnamclfbaaGreatDoor
