/- The contract of a day's date. Contracts of civil's padded and Of. Contracts of civil's Text and Parse. A range over a function: the loop's caller owns blocks, the iterator keeps blocks of its own. Rules and days: plain words, and what the civil functions say in them. No condition. -/
import Derived.Test.YtjhnpcnamclfbaaGreatDoorCd0
import Derived.Test.YtjhnpcnamclfbaaGreatDoorCd1
import Derived.Test.YtjhnpcnamclfbaaGreatDoorCd2
import Derived.Test.YtjhnpcnamclfbaaGreatDoorCd3
import Derived.Test.YtjhnpcnamclfbaaGreatDoorCe
import Derived.Lib.ItoaLen
import Derived.RangeFuncNested
import Derived.RangeFuncBound
import Derived.RangeFuncCalls
import Derived.RangeFuncLeaves
import Derived.Test.YtjhnpcnamclfbaaGreatDoorProg
import Derived.WalkKit
import Derived.WalkSpells
import Derived.Shelf.Abstract
/-! The contract of a day's date. -/
namespace Go.Proofs.YtjhnpcnamclfbaaGreatDoor
open Go Go.Eng Go.RowKit
noncomputable section
set_option maxRecDepth 100000

theorem and_both {a b : Bool} (h : (a && b) = true) (l : Bool) : (if l then b else a) = true := by
  rw [Bool.and_eq_true] at h
  cases l
  · exact h.1
  · exact h.2
theorem runDate_all {k mm : Nat} (hk : k ≤ 28) (h1 : 1 ≤ mm) (h2 : mm ≤ 12) (l : Bool) : runDate k mm l = true := by
  have key : ∀ {k}, allB (fun mm => runDate k mm false && runDate k mm true) months12 = true → runDate k mm l = true := by
    intro k h
    have := and_both (allB_spec h mm (months12_mem h1 h2)) l
    cases l <;> exact this
  have : k = 0 ∨ k = 1 ∨ k = 2 ∨ k = 3 ∨ k = 4 ∨ k = 5 ∨ k = 6 ∨ k = 7 ∨ k = 8 ∨ k = 9 ∨ k = 10 ∨ k = 11 ∨ k = 12 ∨ k = 13 ∨ k = 14 ∨ k = 15 ∨ k = 16 ∨ k = 17 ∨ k = 18 ∨ k = 19 ∨ k = 20 ∨ k = 21 ∨ k = 22 ∨ k = 23 ∨ k = 24 ∨ k = 25 ∨ k = 26 ∨ k = 27 ∨ k = 28 := by omega
  rcases this with rfl | rfl | rfl | rfl | rfl | rfl | rfl | rfl | rfl | rfl | rfl | rfl | rfl | rfl | rfl | rfl | rfl | rfl | rfl | rfl | rfl | rfl | rfl | rfl | rfl | rfl | rfl | rfl | rfl
  · exact key runDate00
  · exact key runDate01
  · exact key runDate02
  · exact key runDate03
  · exact key runDate04
  · exact key runDate05
  · exact key runDate06
  · exact key runDate07
  · exact key runDate08
  · exact key runDate09
  · exact key runDate10
  · exact key runDate11
  · exact key runDate12
  · exact key runDate13
  · exact key runDate14
  · exact key runDate15
  · exact key runDate16
  · exact key runDate17
  · exact key runDate18
  · exact key runDate19
  · exact key runDate20
  · exact key runDate21
  · exact key runDate22
  · exact key runDate23
  · exact key runDate24
  · exact key runDate25
  · exact key runDate26
  · exact key runDate27
  · exact key runDate28

def sgDate (n y0 k : Nat) (l : Bool) (i : Nat) : Value :=
  if i = 0 then .int .i64 n else if i = 1 then .int .i64 ((n : Int) - 1) else if i = 2 then .int .i64 (((n : Int) - 1).tdiv 366) else if i < 10 then .nilIface else if i < 49 then .int .i64 ((y0 + (i - 10) : Nat) : Int)
  else if i < 99 then .int .i64 (aheadI ((y0 + (i - 49) : Nat) : Int)) else .int .i64 ((n : Int) - aheadN (y0 + k) - daysM l (i - 100))
theorem withM_ne {σ : Nat → Value} {m : Int} {i : Nat} (h : i ≠ 900) : withM σ m i = σ i := by
  unfold withM kM
  have : Nat.beq i 900 = false := by
    cases hb : Nat.beq i 900 with
    | false => rfl
    | true => exact absurd (Nat.eq_of_beq_eq_true hb) h
  rw [this]
theorem conc_at {σ : Nat → Value} {m : Int} {i : Nat} {k : IntKind} {x : Int} (h : i ≠ 900) (e : σ i = .int k x) : conc (withM σ m) (.sym i) = .int k x := by
  show concS i (withM σ m i) = _
  rw [withM_ne h, e]; rfl

section
variable {n y0 k : Nat} {l : Bool}
theorem sy {i : Nat} (h : i < 39) : sgDate n y0 k l (10 + i) = .int .i64 ((y0 + i : Nat) : Int) := by
  unfold sgDate
  rw [if_neg (by omega), if_neg (by omega), if_neg (by omega), if_neg (by omega), if_pos (by omega), Nat.add_sub_cancel_left]
theorem sa {i : Nat} (h : i < 50) : sgDate n y0 k l (49 + i) = .int .i64 (aheadI ((y0 + i : Nat) : Int)) := by
  unfold sgDate
  rw [if_neg (by omega), if_neg (by omega), if_neg (by omega), if_neg (by omega), if_neg (by omega), if_pos (by omega), Nat.add_sub_cancel_left]
theorem sd {i : Nat} : sgDate n y0 k l (100 + i) = .int .i64 ((n : Int) - aheadN (y0 + k) - daysM l i) := by
  unfold sgDate
  rw [if_neg (by omega), if_neg (by omega), if_neg (by omega), if_neg (by omega), if_neg (by omega), if_neg (by omega), Nat.add_sub_cancel_left]
end
theorem daysM_le (l : Bool) : ∀ m, daysM l m ≤ 31 * m
  | 0 => Nat.le_refl _
  | m + 1 => by
    have := daysM_le l m
    have h2 : longN l (m + 1) ≤ 31 := by unfold longN; split <;> first | omega | (cases l <;> decide)
    show daysM l m + longN l (m + 1) ≤ _
    omega
theorem daysM_mono (l : Bool) {a b : Nat} (h : a ≤ b) : daysM l a ≤ daysM l b := by
  induction b with
  | zero => have : a = 0 := by omega
            subst this; exact Nat.le_refl _
  | succ b ih =>
    rcases Nat.lt_or_ge b a with hb | hb
    · have : a = b + 1 := by omega
      subst this; exact Nat.le_refl _
    · exact Nat.le_trans (ih hb) (Nat.le_add_right _ _)

theorem c_date (n : Nat) (h1 : 1 ≤ n) (h2 : n ≤ 3652059) : ∃ y mm d : Nat, 1 ≤ y ∧ y ≤ 9999 ∧ 1 ≤ mm ∧ mm ≤ 12 ∧ 1 ≤ d ∧ d ≤ longN (leapB (y : Int)) mm ∧ n = aheadN y + daysM (leapB (y : Int)) (mm - 1) + d ∧
    CV fDate #[.int .i64 (n : Int)] (.tuple #[.int .i64 (y : Int), .int .i64 (mm : Int), .int .i64 (d : Int)]) := by
  obtain ⟨y, y1, y2, hlo, hhi⟩ := year_of n h1 h2
  have hy0 := year0_le h1 hhi
  have hnear := year0_near y2 hlo
  obtain ⟨k, hk⟩ : ∃ k, y = year0 n + k := ⟨y - year0 n, by omega⟩
  have hk28 : k ≤ 28 := by omega
  have hstep := ahead_step y y1
  have hd1 : 1 ≤ n - aheadN y := by omega
  have hd2 : n - aheadN y ≤ daysM (leapB (y : Int)) 12 := by
    rw [days12]
    cases hlp : leapB (y : Int) <;> simp [hlp] at hstep ⊢ <;> omega
  obtain ⟨mm, m1, m2, hml, hmh⟩ := month_of (leapB (y : Int)) (n - aheadN y) hd1 hd2
  have hlong : daysM (leapB (y : Int)) mm = daysM (leapB (y : Int)) (mm - 1) + longN (leapB (y : Int)) mm := by
    obtain ⟨q, rfl⟩ : ∃ q, mm = q + 1 := ⟨mm - 1, by omega⟩
    rfl
  refine ⟨y, mm, n - aheadN y - daysM (leapB (y : Int)) (mm - 1), y1, y2, m1, m2, by omega, by omega, by omega, ?_⟩
  have hy0p : 1 ≤ year0 n := by unfold year0; omega
  have hay : aheadN (year0 n + k) = aheadN y := by rw [hk]
  generalize hl : leapB (y : Int) = l at *
  have hd0 : daysM l 0 = 0 := rfl
  have T := daysM_le l
  have Mo : ∀ {a b : Nat}, a ≤ b → daysM l a ≤ daysM l b := fun h => daysM_mono l h
  refine CallsV.script (E := E0) envOK 9 (σ := sgDate n (year0 n) k l) (orows := orDate k mm l) (krows := krDate k mm l) (fun m r hr => ?_) (fun m r hr => ?_) (rowRun_H (runDate_all hk28 m1 m2 l)) (fun m => ⟨_, _, rfl, ⟨rfl, rfl⟩, rfl⟩) (fun m => ?_) rfl
  · have c0 : conc (withM (sgDate n (year0 n) k l) m) (.sym 0) = .int .i64 (n : Int) := conc_at (by decide) rfl
    have c1 : conc (withM (sgDate n (year0 n) k l) m) (.sym 1) = .int .i64 ((n : Int) - 1) := conc_at (by decide) rfl
    have c2 : conc (withM (sgDate n (year0 n) k l) m) (.sym 2) = .int .i64 (((n : Int) - 1).tdiv 366) := conc_at (by decide) rfl
    have cy : ∀ i, i < 39 → conc (withM (sgDate n (year0 n) k l) m) (.sym (10 + i)) = .int .i64 ((year0 n + i : Nat) : Int) := fun i hi => conc_at (by omega) (sy hi)
    have ca : ∀ i, i < 50 → conc (withM (sgDate n (year0 n) k l) m) (.sym (49 + i)) = .int .i64 (aheadI ((year0 n + i : Nat) : Int)) := fun i hi => conc_at (by omega) (sa hi)
    have cd : ∀ i, i < 700 → conc (withM (sgDate n (year0 n) k l) m) (.sym (100 + i)) = .int .i64 ((n : Int) - aheadN (year0 n + k) - daysM l i) := fun i hi => conc_at (by omega) sd
    have d366 : ((n : Int) - 1).tdiv 366 = ((n : Int) - 1) / 366 := Int.tdiv_eq_ediv_of_nonneg (by omega)
    have hyk : year0 n + k = y := hk.symm
    unfold orDate at hr
    rcases List.mem_append.1 hr with hr | hr
    · simp only [List.mem_cons, List.mem_nil_iff, or_false] at hr
      rcases hr with rfl | rfl | rfl | rfl | rfl | rfl | rfl
      · exact RowOK.cmp .i64 (x := (n : Int)) (y := 1) c0 rfl (.inr (.inr (.inr (.inr (.inr ⟨rfl, by symm; rw [decide_eq_true_eq]; omega⟩)))))
      · exact RowOK.cmp .i64 (x := (n : Int)) (y := 3652059) c0 rfl (.inr (.inr (.inr (.inl ⟨rfl, by symm; rw [decide_eq_true_eq]; omega⟩))))
      · exact RowOK.sub64 (x := (n : Int)) (y := 1) c0 rfl c1 rfl (by omega) (by omega)
      · exact RowOK.quo64 (x := (n : Int) - 1) (y := 366) c1 rfl c2 (by decide) rfl (by omega) (by omega)
      · exact RowOK.add64 (x := ((n : Int) - 1).tdiv 366) (y := 1) c2 rfl (cy 0 (by omega)) (by rw [d366]; unfold year0; omega) (by omega) (by unfold year0; omega)
      · exact RowOK.sub64 (x := (n : Int)) (y := aheadI ((year0 n + k : Nat) : Int)) c0 (ca k (by omega)) (cd 0 (by omega)) (by rw [ahead_eq (by omega)]; show _ = (n : Int) - aheadN (year0 n + k) - ((0 : Nat) : Int); omega) (by omega) (by omega)
      · exact RowOK.conv (u := tDay) (d := tDay) (k := .i64) (k' := .i64) (n := (n : Int)) (by show und E0 tDay = some (.int .i64); kernel_rfl) (by show und E0 tDay = some (.int .i64); kernel_rfl) c0 (by rw [c0, wrap64_id (by omega) (by omega)]) (by decide)
    · rcases List.mem_append.1 hr with hr | hr
      · obtain ⟨i, hi, hr⟩ := flatR_mem hr
        simp only [orYear, List.mem_cons, List.mem_nil_iff, or_false] at hr
        rcases hr with rfl | rfl
        · exact RowOK.add64 (x := ((year0 n + i : Nat) : Int)) (y := 1) (cy i (by omega)) rfl (show conc _ (.sym (11 + i)) = _ from by rw [show 11 + i = 10 + (i + 1) by omega]; exact cy (i + 1) (by omega)) (by omega) (by omega) (by omega)
        · refine RowOK.cmp .i64 (x := aheadI ((year0 n + (i + 1) : Nat) : Int)) (y := (n : Int)) (show conc _ (.sym (50 + i)) = _ from by rw [show 50 + i = 49 + (i + 1) by omega]; exact ca (i + 1) (by omega)) c0 (.inr (.inr (.inl ⟨rfl, ?_⟩)))
          rw [ahead_eq (by omega), blt_iff]
          have hmo1 : i < k → aheadN (year0 n + (i + 1)) ≤ aheadN y := fun hik => ahead_mono (by omega) (by omega)
          have hmo2 : ¬ i < k → aheadN (y + 1) ≤ aheadN (year0 n + (i + 1)) := fun hik => ahead_mono (by omega) (by omega)
          by_cases hik : i < k
          · have := hmo1 hik
            rw [decide_eq_true hik]; symm; rw [decide_eq_true_eq]; omega
          · have := hmo2 hik
            rw [decide_eq_false hik]; symm; rw [decide_eq_false_iff_not]; omega
      · obtain ⟨j, hj, hr⟩ := flatR_mem hr
        simp only [orMonth, List.mem_cons, List.mem_nil_iff, or_false] at hr
        have hs : daysM l (j + 1) = daysM l j + longN l (j + 1) := rfl
        have t1 := T (j + 1)
        rcases hr with rfl | rfl
        · refine RowOK.cmp .i64 (x := (n : Int) - aheadN (year0 n + k) - daysM l j) (y := ((longN l (j + 1) : Nat) : Int)) (cd j (by omega)) rfl (.inr (.inr (.inr (.inr (.inl ⟨rfl, ?_⟩)))))
          rw [blt_iff, hyk]
          by_cases hjm : j + 1 < mm
          · have := Mo (a := j + 1) (b := mm - 1) (by omega)
            rw [show decide (Nat.succ j < mm) = true from decide_eq_true hjm]; symm; rw [decide_eq_true_eq]; omega
          · have : mm = j + 1 := by omega
            subst this
            rw [show decide (Nat.succ j < j + 1) = false from decide_eq_false (by omega)]; symm; rw [decide_eq_false_iff_not]; omega
        · exact RowOK.sub64 (x := (n : Int) - aheadN (year0 n + k) - daysM l j) (y := ((longN l (j + 1) : Nat) : Int)) (cd j (by omega)) rfl (show conc _ (.sym (101 + j)) = _ from by rw [show 101 + j = 100 + (j + 1) by omega]; exact cd (j + 1) (by omega)) (by rw [hs]; omega) (by omega) (by omega)
  · unfold krDate at hr
    rcases List.mem_append.1 hr with hr | hr
    · obtain ⟨j, hj, rfl⟩ := List.mem_map.1 hr
      have hj := upTo_mem.1 hj
      exact KRow.ofV glC_OK glC_bare (withM_kM _ _) rfl (va := #[.int .i64 ((year0 n + j : Nat) : Int)]) ⟨_, _, rfl, ⟨by show Value.int .i64 _ = withM _ _ (10 + j); rw [withM_ne (show 10 + j ≠ 900 by omega)]; exact (sy (by omega)).symm, rfl⟩, rfl⟩ (.inl rfl) (u := .int .i64 (aheadI ((year0 n + j : Nat) : Int))) ⟨by show Value.int .i64 _ = withM _ _ (49 + j); rw [withM_ne (show 49 + j ≠ 900 by omega)]; exact (sa (by omega)).symm, rfl⟩ (c_ahead (by omega) (by omega))
    · obtain ⟨j, hj, rfl⟩ := List.mem_map.1 hr
      have hj := upTo_mem.1 hj
      have c := c_long ((year0 n + k : Nat) : Int) (m := j + 1) (by omega) (by omega)
      rw [← hk, hl] at c
      exact KRow.ofV glC_OK glC_bare (withM_kM _ _) rfl (va := #[.int .i64 ((year0 n + k : Nat) : Int), .int .i64 ((j + 1 : Nat) : Int)]) ⟨_, _, rfl, ⟨by show Value.int .i64 _ = withM _ _ (10 + k); rw [withM_ne (show 10 + k ≠ 900 by omega)]; exact (sy (by omega)).symm, rfl⟩, _, _, rfl, rfl, rfl⟩ (.inl rfl) (u := .int .i64 ((longN l (j + 1) : Nat) : Int)) rfl (by rw [← hk]; exact c)
  · refine ⟨_, rfl, _, _, rfl, ⟨?_, rfl⟩, _, _, rfl, rfl, _, _, rfl, ⟨?_, rfl⟩, rfl⟩
    · show Value.int .i64 _ = withM _ _ (10 + k)
      rw [withM_ne (show 10 + k ≠ 900 by omega), sy (by omega), ← hk]
    · show Value.int .i64 _ = withM _ _ (99 + mm)
      rw [withM_ne (show 99 + mm ≠ 900 by omega), show 99 + mm = 100 + (mm - 1) by omega, sd, hay]
      congr 1; omega
end
end Go.Proofs.YtjhnpcnamclfbaaGreatDoor

/-! Contracts of civil's padded and Of. -/
namespace Go.Proofs.YtjhnpcnamclfbaaGreatDoor
open Go Go.Eng Go.RowKit
noncomputable section
set_option maxRecDepth 100000

/-! ### padded -/
def nats (l : List UInt8) : List Nat := l.map UInt8.toNat
theorem nats_append (a b : List UInt8) : nats (a ++ b) = nats a ++ nats b := List.map_append
theorem nats_len (a : List UInt8) : (nats a).length = a.length := List.length_map _
theorem repeat_zeros : ∀ k, Lib.repeatL [48] k = zeros k
  | 0 => rfl
  | k + 1 => by
    show [48] ++ Lib.repeatL [48] k = 48 :: zeros k
    rw [repeat_zeros k]; rfl
theorem nats_zeros : ∀ k, nats (zeros k) = bytesZ k
  | 0 => rfl
  | k + 1 => by
    show (48 : UInt8).toNat :: nats (zeros k) = 48 :: bytesZ k
    rw [nats_zeros k]; rfl
def sgP (u size : Nat) : Nat → Value
  | 0 => .int .i64 (u : Int)
  | 1 => strV (Lib.decDigits u)
  | 2 => strV (pad u size)
  | _ => .nilIface
def padL : List (Nat × Nat) := [(4, 1), (4, 2), (4, 3), (4, 4), (2, 1), (2, 2)]
theorem typ9 {E : Env} (h : E.ty = E0.ty) : und E 9 = some .string := by
  unfold und; rw [h]; kernel_rfl
theorem c_pad {u size : Nat} (hp : (size, Lib.nDigits u) ∈ padL) (hu : u ≤ 100000) : CW fPadded #[.int .i64 (u : Int), .int .i64 (size : Int)] (strV (pad u size)) := by
  have hs : size ≤ 4 := by
    have : ∀ p ∈ padL, p.1 ≤ 4 := by decide
    exact this _ hp
  refine CallsV.script (E := EV) envV 9 (σ := sgP u size) (orows := orPad size (Lib.nDigits u)) (krows := krPad size (Lib.nDigits u)) (fun m r hr => ?_) (fun m r hr => ?_) (rowRun_H (allB_spec runPad (size, Lib.nDigits u) hp)) (fun m => ⟨_, _, rfl, ⟨rfl, rfl⟩, _, _, rfl, rfl, rfl⟩) (fun m => ⟨rfl, rfl⟩) rfl tabV_hold
  · simp only [orPad, List.mem_cons, List.mem_nil_iff, or_false] at hr
    rcases hr with rfl | rfl
    · refine RowOK.len (typ9 rfl) (x := nats (Lib.decDigits u)) rfl ?_
      rw [nats_len, Lib.decDigits_length]; rfl
    · refine RowOK.cat (p := bytesZ (size - Lib.nDigits u)) (q := nats (Lib.decDigits u)) (r := nats (pad u size)) rfl rfl rfl ?_ ?_
      · unfold pad; rw [nats_append, nats_zeros]
      · rw [nats_len]
        unfold pad zeros
        rw [List.length_append, List.length_replicate, Lib.decDigits_length]
        have := Lib.nDigits_le20 u (by omega)
        omega
  · simp only [krPad, List.mem_cons, List.mem_nil_iff, or_false] at hr
    rcases hr with rfl | rfl
    · exact KRow.ofV glC_OK glC_bare (withM_kM _ _) rfl (va := #[.int .i64 (u : Int)]) ⟨_, _, rfl, ⟨rfl, rfl⟩, rfl⟩ (.inl rfl) (u := strV (Lib.decDigits u)) ⟨rfl, rfl⟩ (c_itoa u (by omega))
    · refine KRow.ofV glC_OK glC_bare (withM_kM _ _) rfl (va := #[strV [48], .int .i64 ((size - Lib.nDigits u : Nat) : Int)]) ⟨_, _, rfl, ⟨_, rfl, rfl⟩, _, _, rfl, rfl, rfl⟩ (.inl rfl) (u := strV (Lib.repeatL [48] (size - Lib.nDigits u))) ⟨_, rfl, ?_⟩ (c_zeros _ (by omega))
      show nats (Lib.repeatL [48] (size - Lib.nDigits u)) = _
      rw [repeat_zeros, nats_zeros]; rfl

/-! ### Of -/
def sgOf (y d : Nat) (l : Bool) : Nat → Value := fun i => if i = 0 then .int .i64 (y : Int) else if i = 2 then .int .i64 (d : Int) else if i = 10 then .int .i64 (aheadI (y : Int)) else .int .i64 ((aheadN y + d + daysM l (i - 11) : Nat) : Int)
theorem c_of {y mm d : Nat} (y1 : 1 ≤ y) (y2 : y ≤ 9999) (m1 : 1 ≤ mm) (m2 : mm ≤ 12) (d1 : 1 ≤ d) (d2 : d ≤ longN (leapB (y : Int)) mm) :
    CV fOf #[.int .i64 (y : Int), .int .i64 (mm : Int), .int .i64 (d : Int)] (.tuple #[.int .i64 ((aheadN y + d + daysM (leapB (y : Int)) (mm - 1) : Nat) : Int), .bool true]) := by
  have hah : aheadN y ≤ 3652059 := by
    have := ahead_mono (y := y) (z := 9999) (by omega) (by omega)
    have e : aheadN 9999 = 3651694 := by decide
    omega
  generalize hl : leapB (y : Int) = l at *
  have T := daysM_le l
  have h31 : longN l mm ≤ 31 := by unfold longN; split <;> first | omega | (cases l <;> decide)
  have sN : ∀ i, 11 ≤ i → sgOf y d l i = .int .i64 ((aheadN y + d + daysM l (i - 11) : Nat) : Int) := fun i hi => by
    unfold sgOf; rw [if_neg (by omega), if_neg (by omega), if_neg (by omega)]
  refine CallsV.script (E := E0) envOK 9 (σ := sgOf y d l) (orows := orOf l mm) (krows := krOf l mm) (fun m r hr => ?_) (fun m r hr => ?_) (rowRun_H (allB_spec (runOf0 l) mm (months12_mem m1 m2))) (fun m => ⟨_, _, rfl, ⟨rfl, rfl⟩, _, _, rfl, rfl, _, _, rfl, ⟨rfl, rfl⟩, rfl⟩) (fun m => ?_) rfl
  · have c0 : conc (withM (sgOf y d l) m) (.sym 0) = .int .i64 (y : Int) := conc_at (by decide) rfl
    have c2 : conc (withM (sgOf y d l) m) (.sym 2) = .int .i64 (d : Int) := conc_at (by decide) rfl
    have c10 : conc (withM (sgOf y d l) m) (.sym 10) = .int .i64 (aheadI (y : Int)) := conc_at (by decide) rfl
    have cN : ∀ i, i < 100 → conc (withM (sgOf y d l) m) (.sym (11 + i)) = .int .i64 ((aheadN y + d + daysM l i : Nat) : Int) := fun i hi => conc_at (by omega) (by rw [sN _ (by omega), show 11 + i - 11 = i by omega])
    unfold orOf at hr
    rcases List.mem_append.1 hr with hr | hr
    · simp only [List.mem_cons, List.mem_nil_iff, or_false] at hr
      rcases hr with rfl | rfl | rfl | rfl | rfl | rfl
      · exact RowOK.cmp .i64 (x := (y : Int)) (y := 1) c0 rfl (.inr (.inr (.inl ⟨rfl, by symm; rw [decide_eq_false_iff_not]; omega⟩)))
      · exact RowOK.cmp .i64 (x := (y : Int)) (y := 9999) c0 rfl (.inr (.inr (.inr (.inr (.inl ⟨rfl, by symm; rw [decide_eq_false_iff_not]; omega⟩)))))
      · exact RowOK.cmp .i64 (x := (d : Int)) (y := 1) c2 rfl (.inr (.inr (.inl ⟨rfl, by symm; rw [decide_eq_false_iff_not]; omega⟩)))
      · exact RowOK.cmp .i64 (x := (d : Int)) (y := (longN l mm : Int)) c2 rfl (.inr (.inr (.inr (.inr (.inl ⟨rfl, by symm; rw [decide_eq_false_iff_not]; omega⟩)))))
      · exact RowOK.add64 (x := aheadI (y : Int)) (y := (d : Int)) c10 c2 (cN 0 (by omega)) (by rw [ahead_eq (by omega)]; show _ = ((aheadN y + d + 0 : Nat) : Int); omega) (by omega) (by show ((aheadN y + d + 0 : Nat) : Int) < _; omega)
      · have cm : conc (withM (sgOf y d l) m) (.sym (Nat.add 10 mm)) = .int .i64 ((aheadN y + d + daysM l (mm - 1) : Nat) : Int) := by
          have := cN (mm - 1) (by omega)
          rwa [show 11 + (mm - 1) = Nat.add 10 mm from by show _ = 10 + mm; omega] at this
        have t := T (mm - 1)
        exact RowOK.conv (u := tInt) (d := tDay) (k := .i64) (k' := .i64) (n := ((aheadN y + d + daysM l (mm - 1) : Nat) : Int)) (by show und E0 3 = some (.int .i64); kernel_rfl) (by show und E0 tDay = some (.int .i64); kernel_rfl) cm (by rw [cm, wrap64_id (by omega) (by omega)]) (by decide)
    · obtain ⟨j, hj, hr⟩ := flatR_mem hr
      simp only [List.mem_cons, List.mem_nil_iff, or_false] at hr
      subst hr
      have hj : j + 1 < mm := by have : Nat.pred mm = mm - 1 := rfl; omega
      have t := T (j + 1)
      have e : daysM l (j + 1) = daysM l j + longN l (j + 1) := rfl
      exact RowOK.add64 (x := ((aheadN y + d + daysM l j : Nat) : Int)) (y := (longN l (j + 1) : Int)) (cN j (by omega)) rfl (show conc _ (.sym (12 + j)) = _ from by rw [show 12 + j = 11 + (j + 1) by omega]; exact cN (j + 1) (by omega)) (by rw [e]; omega) (by omega) (by omega)
  · unfold krOf at hr
    rcases List.mem_cons.1 hr with rfl | hr
    · exact KRow.ofV glC_OK glC_bare (withM_kM _ _) rfl (va := #[.int .i64 (y : Int)]) ⟨_, _, rfl, ⟨rfl, rfl⟩, rfl⟩ (.inl rfl) (u := .int .i64 (aheadI (y : Int))) ⟨rfl, rfl⟩ (c_ahead (by omega) (by omega))
    · obtain ⟨j, hj, rfl⟩ := List.mem_map.1 hr
      have hj := upTo_mem.1 hj
      have c := c_long (y : Int) (m := j + 1) (by omega) (by omega)
      rw [hl] at c
      exact KRow.ofV glC_OK glC_bare (withM_kM _ _) rfl (va := #[.int .i64 (y : Int), .int .i64 ((j + 1 : Nat) : Int)]) ⟨_, _, rfl, ⟨rfl, rfl⟩, _, _, rfl, rfl, rfl⟩ (.inl rfl) (u := .int .i64 ((longN l (j + 1) : Nat) : Int)) rfl c
  · refine ⟨_, rfl, _, _, rfl, ⟨?_, rfl⟩, _, _, rfl, rfl, rfl⟩
    show Value.int .i64 _ = withM _ _ (10 + mm)
    rw [withM_ne (show 10 + mm ≠ 900 by omega), sN _ (by omega), show 10 + mm - 11 = mm - 1 by omega]
end
end Go.Proofs.YtjhnpcnamclfbaaGreatDoor

/-! Contracts of civil's Text and Parse. -/
namespace Go.Proofs.YtjhnpcnamclfbaaGreatDoor
open Go Go.Eng Go.RowKit
noncomputable section
set_option maxRecDepth 100000

/-- This day's year, month and day of the month. -/
structure Dated (n y mm d : Nat) : Prop where
  y1 : 1 ≤ y
  y2 : y ≤ 9999
  m1 : 1 ≤ mm
  m2 : mm ≤ 12
  d1 : 1 ≤ d
  d2 : d ≤ longN (leapB (y : Int)) mm
  e : n = aheadN y + daysM (leapB (y : Int)) (mm - 1) + d
  c : CV fDate #[.int .i64 (n : Int)] (.tuple #[.int .i64 (y : Int), .int .i64 (mm : Int), .int .i64 (d : Int)])
theorem dated (n : Nat) (h1 : 1 ≤ n) (h2 : n ≤ 3652059) : ∃ y mm d, Dated n y mm d := by
  obtain ⟨y, mm, d, h1, h2, h3, h4, h5, h6, h7, h8⟩ := c_date n h1 h2
  exact ⟨y, mm, d, h1, h2, h3, h4, h5, h6, h7, h8⟩
theorem Dated.d31 {n y mm d : Nat} (h : Dated n y mm d) : d ≤ 31 := by
  have h31 : longN (leapB (y : Int)) mm ≤ 31 := by unfold longN; split <;> first | omega | (cases leapB (y : Int) <;> decide)
  exact Nat.le_trans h.d2 h31
theorem pad4 {y : Nat} (h : y ≤ 9999) : (4, Lib.nDigits y) ∈ padL := by
  have h1 := Lib.nDigits_pos y
  have h2 := nDigits_le 3 y (by omega)
  have : ∀ k, k < 5 → 1 ≤ k → (4, k) ∈ padL := by decide
  exact this _ (by omega) h1
theorem pad2 {y : Nat} (h : y ≤ 99) : (2, Lib.nDigits y) ∈ padL := by
  have h1 := Lib.nDigits_pos y
  have h2 := nDigits_le 1 y (by omega)
  have : ∀ k, k < 3 → 1 ≤ k → (2, k) ∈ padL := by decide
  exact this _ (by omega) h1
theorem digit_nat {k : Nat} (h : k < 10) : (UInt8.ofNat (48 + k)).toNat = 48 + k := by rw [UInt8.toNat_ofNat']; omega
theorem nats_pad2 {u : Nat} (h : u < 100) : nats (pad u 2) = mmS u := by
  have ed : Nat.div u 10 = u / 10 := rfl
  have em : Nat.mod u 10 = u % 10 := rfl
  unfold pad zeros mmS
  rw [ed, em]
  by_cases h10 : u < 10
  · rw [Lib.nDigits_small h10, Lib.decDigits, dif_pos h10, show u / 10 = 0 by omega, show u % 10 = u by omega]
    show [(48 : UInt8).toNat, (UInt8.ofNat (48 + u)).toNat] = _
    rw [digit_nat h10]; rfl
  · rw [Lib.nDigits_big h10, Lib.nDigits_small (show u / 10 < 10 by omega), Lib.decDigits, dif_neg h10, Lib.decDigits, dif_pos (show u / 10 < 10 by omega)]
    show [(UInt8.ofNat (48 + u / 10)).toNat, (UInt8.ofNat (48 + u % 10)).toNat] = _
    rw [digit_nat (by omega), digit_nat (by omega)]; rfl

theorem drop_past (a b : List Nat) {i k : Nat} (h : i = a.length + k) : (a ++ b).drop i = b.drop k := by
  subst h
  rw [List.drop_append, List.drop_of_length_le (by omega), show a.length + k - a.length = k by omega, List.nil_append]

/-- The day as civil writes it. -/
def dayT (y mm d : Nat) : List UInt8 := (((pad y 4 ++ [45]) ++ pad mm 2) ++ [45]) ++ pad d 2
def sgT (n y mm d : Nat) : Nat → Value
  | 0 => .int .i64 (n : Int)
  | 1 => .int .i64 (y : Int)
  | 2 => .int .i64 (d : Int)
  | 3 => strV (pad y 4)
  | 4 => strV (pad d 2)
  | 5 => strV (pad y 4 ++ [45])
  | 6 => strV ((pad y 4 ++ [45]) ++ pad mm 2)
  | 7 => strV (((pad y 4 ++ [45]) ++ pad mm 2) ++ [45])
  | 8 => strV (dayT y mm d)
  | _ => .nilIface
section
variable {n y mm d : Nat} (h : Dated n y mm d)
include h
theorem Dated.l4 : (pad y 4).length = 4 := pad_length (by have := nDigits_le 3 y (by have := h.y2; omega); omega)
theorem Dated.lm : (pad mm 2).length = 2 := pad_length (by have := nDigits_le 1 mm (by have := h.m2; omega); omega)
theorem Dated.ld : (pad d 2).length = 2 := pad_length (by have := nDigits_le 1 d (by have := h.d31; omega); omega)
theorem Dated.l10 : (dayT y mm d).length = 10 := by
  unfold dayT
  simp only [List.length_append, h.l4, h.lm, h.ld, List.length_singleton]
theorem Dated.nm : nats (pad mm 2) = mmS mm := nats_pad2 (by have := h.m2; omega)
theorem c_text : CW fText #[.int .i64 (n : Int)] (strV (dayT y mm d)) := by
  have hy := h.y2; have hm := h.m2; have hd := h.d31; have y1 := h.y1
  refine CallsV.script (E := EV) envV 9 (σ := sgT n y mm d) (orows := orText mm) (krows := krText mm) (fun m r hr => ?_) (fun m r hr => ?_) (rowRun_H (allB_spec runText mm (months12_mem h.m1 h.m2))) (fun m => ⟨_, _, rfl, ⟨rfl, rfl⟩, rfl⟩) (fun m => ⟨rfl, rfl⟩) rfl tabV_hold
  · simp only [orText, List.mem_cons, List.mem_nil_iff, or_false] at hr
    rcases hr with rfl | rfl | rfl | rfl | rfl
    · exact RowOK.cmp .i64 (x := (y : Int)) (y := 0) rfl rfl (.inl ⟨rfl, by symm; rw [decide_eq_false_iff_not]; omega⟩)
    · exact RowOK.cat (p := nats (pad y 4)) (q := [45]) (r := nats (pad y 4 ++ [45])) rfl rfl rfl (by rw [nats_append]; rfl) (by rw [nats_len, List.length_append, h.l4]; decide)
    · exact RowOK.cat (p := nats (pad y 4 ++ [45])) (q := mmS mm) (r := nats ((pad y 4 ++ [45]) ++ pad mm 2)) rfl rfl rfl (by rw [nats_append _ (pad mm 2), h.nm]) (by rw [nats_len, List.length_append, List.length_append, h.l4, h.lm]; decide)
    · exact RowOK.cat (p := nats ((pad y 4 ++ [45]) ++ pad mm 2)) (q := [45]) (r := nats (((pad y 4 ++ [45]) ++ pad mm 2) ++ [45])) rfl rfl rfl (by rw [nats_append _ [45]]; rfl) (by rw [nats_len, List.length_append, List.length_append, List.length_append, h.l4, h.lm]; decide)
    · exact RowOK.cat (p := nats (((pad y 4 ++ [45]) ++ pad mm 2) ++ [45])) (q := nats (pad d 2)) (r := nats (dayT y mm d)) rfl rfl rfl (by unfold dayT; rw [nats_append _ (pad d 2)]) (by rw [nats_len, h.l10]; decide)
  · simp only [krText, List.mem_cons, List.mem_nil_iff, or_false] at hr
    rcases hr with rfl | rfl | rfl | rfl
    · exact KRow.ofV glC_OK glC_bare (withM_kM _ _) rfl (va := #[.int .i64 (n : Int)]) ⟨_, _, rfl, ⟨rfl, rfl⟩, rfl⟩ (.inr ⟨_, rfl, rfl⟩) (u := .tuple #[.int .i64 (y : Int), .int .i64 (mm : Int), .int .i64 (d : Int)]) ⟨_, rfl, _, _, rfl, ⟨rfl, rfl⟩, _, _, rfl, rfl, _, _, rfl, ⟨rfl, rfl⟩, rfl⟩ h.c.w
    · exact KRow.ofV glC_OK glC_bare (withM_kM _ _) rfl (va := #[.int .i64 (y : Int), .int .i64 (4 : Nat)]) ⟨_, _, rfl, ⟨rfl, rfl⟩, _, _, rfl, rfl, rfl⟩ (.inl rfl) (u := strV (pad y 4)) ⟨rfl, rfl⟩ (c_pad (pad4 hy) (by omega))
    · exact KRow.ofV glC_OK glC_bare (withM_kM _ _) rfl (va := #[.int .i64 (mm : Int), .int .i64 (2 : Nat)]) ⟨_, _, rfl, rfl, _, _, rfl, rfl, rfl⟩ (.inl rfl) (u := strV (pad mm 2)) ⟨_, rfl, h.nm⟩ (c_pad (pad2 (by omega)) (by omega))
    · exact KRow.ofV glC_OK glC_bare (withM_kM _ _) rfl (va := #[.int .i64 (d : Int), .int .i64 (2 : Nat)]) ⟨_, _, rfl, ⟨rfl, rfl⟩, _, _, rfl, rfl, rfl⟩ (.inl rfl) (u := strV (pad d 2)) ⟨rfl, rfl⟩ (c_pad (pad2 (by omega)) (by omega))
theorem c_parse : CW fParse #[strV (dayT y mm d)] (.tuple #[.int .i64 (n : Int), .bool true]) := by
  have hy := h.y2; have hm := h.m2; have hd := h.d31; have y1 := h.y1
  have l4 : (nats (pad y 4)).length = 4 := by rw [nats_len, h.l4]
  have l2 : (nats (pad mm 2)).length = 2 := by rw [nats_len, h.lm]
  have l8 : (nats (pad d 2)).length = 2 := by rw [nats_len, h.ld]
  have l10 : (nats (dayT y mm d)).length = 10 := by rw [nats_len, h.l10]
  have eN : nats (dayT y mm d) = nats (pad y 4) ++ (45 :: (nats (pad mm 2) ++ (45 :: nats (pad d 2)))) := by
    unfold dayT
    simp only [nats_append, List.append_assoc]; rfl
  refine CallsV.script (E := EV) envV 9 (σ := sgT n y mm d) (orows := orParse mm) (krows := krParse mm) (fun m r hr => ?_) (fun m r hr => ?_) (rowRun_H (allB_spec runParse mm (months12_mem h.m1 h.m2))) (fun m => ⟨_, _, rfl, ⟨rfl, rfl⟩, rfl⟩) (fun m => ⟨_, rfl, _, _, rfl, ⟨rfl, rfl⟩, _, _, rfl, rfl, rfl⟩) rfl tabV_hold
  · simp only [orParse, List.mem_cons, List.mem_nil_iff, or_false] at hr
    rcases hr with rfl | rfl | rfl | rfl | rfl | rfl | rfl
    · exact RowOK.len (typ9 rfl) (x := nats (dayT y mm d)) rfl (by rw [l10]; rfl)
    · refine RowOK.idx (typ9 rfl) (x := nats (dayT y mm d)) (k := .i64) (n := 4) (c := 45) rfl rfl ?_ rfl
      rw [eN, List.getElem?_append_right (by omega), l4]; rfl
    · refine RowOK.idx (typ9 rfl) (x := nats (dayT y mm d)) (k := .i64) (n := 7) (c := 45) rfl rfl ?_ rfl
      rw [eN, List.getElem?_append_right (by omega), l4]
      show (nats (pad mm 2) ++ (45 :: nats (pad d 2)))[2]? = _
      rw [List.getElem?_append_right (by omega), l2]; rfl
    · refine RowOK.part (typ9 rfl) (a := .sym 8) (x := nats (dayT y mm d)) (lo := 0) (hi := 4) rfl (by omega) (by omega) ?_ (.inr (.inr ⟨rfl, rfl, _, .i64, rfl, rfl⟩))
      show AV.str (nats (pad y 4)) = .str ((nats (dayT y mm d)).take 4)
      rw [eN, List.take_append_of_le_length (by omega), List.take_of_length_le (by omega)]
    · refine RowOK.part (typ9 rfl) (a := .sym 8) (x := nats (dayT y mm d)) (lo := 5) (hi := 7) rfl (by omega) (by omega) ?_ (.inl ⟨rfl, _, _, .i64, .i64, rfl, rfl, rfl⟩)
      show AV.str (mmS mm) = .str (((nats (dayT y mm d)).drop 5).take 2)
      have e5 : (nats (dayT y mm d)).drop 5 = nats (pad mm 2) ++ (45 :: nats (pad d 2)) := by
        rw [eN, drop_past _ _ (k := 1) (by omega)]; rfl
      rw [e5, List.take_append_of_le_length (by omega), List.take_of_length_le (by omega), h.nm]
    · refine RowOK.part (typ9 rfl) (a := .sym 8) (x := nats (dayT y mm d)) (lo := 8) (hi := 10) rfl (by omega) (by omega) ?_ (.inr (.inl ⟨rfl, l10.symm, _, .i64, rfl, rfl⟩))
      show AV.str (nats (pad d 2)) = .str (((nats (dayT y mm d)).drop 8).take 2)
      have e8 : (nats (dayT y mm d)).drop 8 = nats (pad d 2) := by
        rw [eN, drop_past _ _ (k := 4) (by omega)]
        show (nats (pad mm 2) ++ (45 :: nats (pad d 2))).drop 3 = _
        rw [drop_past _ _ (k := 1) (by omega)]; rfl
      rw [e8, List.take_of_length_le (by omega)]
    · exact RowOK.seq (p := nats (dayT y mm d)) (q := nats (dayT y mm d)) rfl rfl (.inr ⟨rfl, by simp⟩)
  · simp only [krParse, List.mem_cons, List.mem_nil_iff, or_false] at hr
    rcases hr with rfl | rfl | rfl | rfl | rfl
    · exact KRow.ofV glC_OK glC_bare (withM_kM _ _) rfl (va := #[strV (pad y 4)]) ⟨_, _, rfl, ⟨rfl, rfl⟩, rfl⟩ (.inr ⟨_, rfl, rfl⟩) (u := .tuple #[.int .i64 (y : Int), .nilIface]) ⟨_, rfl, _, _, rfl, ⟨rfl, rfl⟩, _, _, rfl, rfl, rfl⟩ (c_atoi _ _ (by rw [h.l4]; omega) (atoi_pad (nDigits_le 3 y (by omega)) (by omega)))
    · exact KRow.ofV glC_OK glC_bare (withM_kM _ _) rfl (va := #[strV (pad mm 2)]) ⟨_, _, rfl, ⟨_, rfl, h.nm⟩, rfl⟩ (.inr ⟨_, rfl, rfl⟩) (u := .tuple #[.int .i64 (mm : Int), .nilIface]) ⟨_, rfl, _, _, rfl, rfl, _, _, rfl, rfl, rfl⟩ (c_atoi _ _ (by rw [h.lm]; omega) (atoi_pad (nDigits_le 1 mm (by omega)) (by omega)))
    · exact KRow.ofV glC_OK glC_bare (withM_kM _ _) rfl (va := #[strV (pad d 2)]) ⟨_, _, rfl, ⟨rfl, rfl⟩, rfl⟩ (.inr ⟨_, rfl, rfl⟩) (u := .tuple #[.int .i64 (d : Int), .nilIface]) ⟨_, rfl, _, _, rfl, ⟨rfl, rfl⟩, _, _, rfl, rfl, rfl⟩ (c_atoi _ _ (by rw [h.ld]; omega) (atoi_pad (nDigits_le 1 d (by omega)) (by omega)))
    · have c := c_of h.y1 h.y2 h.m1 h.m2 h.d1 h.d2
      rw [show aheadN y + d + daysM (leapB (y : Int)) (mm - 1) = n by have := h.e; omega] at c
      exact KRow.ofV glC_OK glC_bare (withM_kM _ _) rfl (va := #[.int .i64 (y : Int), .int .i64 (mm : Int), .int .i64 (d : Int)]) ⟨_, _, rfl, ⟨rfl, rfl⟩, _, _, rfl, rfl, _, _, rfl, ⟨rfl, rfl⟩, rfl⟩ (.inr ⟨_, rfl, rfl⟩) (u := .tuple #[.int .i64 (n : Int), .bool true]) ⟨_, rfl, _, _, rfl, ⟨rfl, rfl⟩, _, _, rfl, rfl, rfl⟩ c.w
    · exact KRow.ofV glC_OK glC_bare (withM_kM _ _) rfl (va := #[.int .i64 (n : Int)]) ⟨_, _, rfl, ⟨rfl, rfl⟩, rfl⟩ (.inl rfl) (u := strV (dayT y mm d)) ⟨rfl, rfl⟩ (c_text h)
end
end
end Go.Proofs.YtjhnpcnamclfbaaGreatDoor

/-! A range over a function: the loop's caller owns blocks, the iterator keeps blocks of its own. -/
namespace Go.Proofs.YtjhnpcnamclfbaaGreatDoor
open Go Go.RowKit

/-- But for these blocks, and what is new, it is as it was. -/
structure Chg (X : Nat → Prop) (A B : World) : Prop where
  os : B.os = A.os
  tape : B.tape = A.tape
  output : B.output = A.output
  size : A.heap.size ≤ B.heap.size
  block : ∀ k, k < A.heap.size → ¬ X k → B.heap[k]? = A.heap[k]?
theorem Chg.refl (X : Nat → Prop) (A : World) : Chg X A A := ⟨rfl, rfl, rfl, Nat.le_refl _, fun _ _ _ => rfl⟩
theorem Chg.trans {X : Nat → Prop} {A B C : World} (h : Chg X A B) (k : Chg X B C) : Chg X A C :=
  ⟨k.os.trans h.os, k.tape.trans h.tape, k.output.trans h.output, Nat.le_trans h.size k.size, fun i hi hx => (k.block i (Nat.lt_of_lt_of_le hi h.size) hx).trans (h.block i hi hx)⟩
theorem Chg.more {X Y : Nat → Prop} {A B : World} (h : Chg X A B) (hx : ∀ k, k < A.heap.size → X k → Y k) : Chg Y A B := ⟨h.os, h.tape, h.output, h.size, fun i hi hy => h.block i hi fun hxi => hy (hx i hi hxi)⟩
theorem Chg.putObj (A : World) (l : Nat) (o : Obj) {X : Nat → Prop} (hl : X l) : Chg X A (A.putObj l o) :=
  ⟨rfl, rfl, rfl, by have := (grownBy_putObj' A l o).size; exact this, fun k _ hx => World.putObj_heap_other (fun e => hx (by rw [e]; exact hl))⟩
theorem Chg.alloc (A : World) (o : Obj) (X : Nat → Prop) : Chg X A (A.alloc o) := ⟨rfl, rfl, rfl, by simp, fun k hk _ => Below.heap_alloc A o k hk⟩
theorem Chg.of_below {A B : World} {n : Nat} (h : Below n A B) : Chg (fun k => n ≤ k) A B := ⟨h.os, h.tape, h.output, h.size, fun k _ hx => h.block k (Nat.lt_of_not_le hx)⟩
theorem Chg.below {A B : World} {X : Nat → Prop} {n : Nat} (h : Chg X A B) (hx : ∀ k, k < n → ¬ X k) (hn : n ≤ A.heap.size) : Below n A B := ⟨h.os, h.tape, h.output, h.size, fun k hk => h.block k (Nat.lt_of_lt_of_le hk hn) (hx k hk)⟩

theorem Chg.setCell (A : World) (b : Nat) (v : Value) {X : Nat → Prop} (hl : X b) : Chg X A (A.setCell ⟨b, 0, none⟩ v) :=
  ⟨rfl, rfl, rfl, (grownBy_setCell' A b v).size, fun k hk hx => (grownBy_setCell' A b v).block k hk (fun e => hx (by cases e; exact hl))⟩
/-- What a round does with the blocks that the loop's caller owns. -/
def Rnd (O O' : Nat → Prop) (A B : World) : Prop := Chg O A B ∧ ∀ k, O' k → O k ∨ A.heap.size ≤ k
theorem Rnd.refl (O : Nat → Prop) (A : World) : Rnd O O A A := ⟨Chg.refl _ _, fun _ h => .inl h⟩

/-- It abides whatever befalls blocks from 'base' on that are not owned. -/
def StbO {β : Type} (base : Nat) (J : (Nat → Prop) → β → World → Prop) : Prop := ∀ O s A B, J O s A → Chg (fun k => base ≤ k ∧ ¬ O k) A B → J O s B

/-- How a round's body may be left. -/
def postO {α : Type} (I : (Nat → Prop) → List α → World → Prop) (Ix : Code → (Nat → Prop) → List α → World → Prop) (O1 : Nat → Prop) (xs : List α) (W : World) : Exit → Act → World → Prop
  | .normal, _, W' => ∃ O2, I O2 xs W' ∧ Rnd O1 O2 W W'
  | .ret, _, W' => ∃ O2, Ix .ret O2 xs W' ∧ Rnd O1 O2 W W'
  | .exit id, _, W' => ∃ O2, Ix (.exit id) O2 xs W' ∧ Rnd O1 O2 W W'
  | .goto t, _, W' => ∃ O2, Ix (.goto t) O2 xs W' ∧ Rnd O1 O2 W W'
  | .panic _, _, _ => False
  | .outgrown, _, _ => False

variable {F : Fence} {n : Nat} {P : Program}
end Go.Proofs.YtjhnpcnamclfbaaGreatDoor

/-! Rules and days: plain words, and what the civil functions say in them. -/
namespace Go.Proofs.YtjhnpcnamclfbaaGreatDoor
open Go Go.Eng Go.RowKit

theorem hidZ {p : Prop} (h : p) : Hid p := h
abbrev lastN : Nat := 3652059
noncomputable def dateN (n : Nat) : Nat × Nat × Nat := if h : 1 ≤ n ∧ n ≤ lastN then ⟨Classical.choose (dated n h.1 h.2), Classical.choose (Classical.choose_spec (dated n h.1 h.2)), Classical.choose (Classical.choose_spec (Classical.choose_spec (dated n h.1 h.2)))⟩ else (0, 0, 0)
theorem dateN_dated {n : Nat} (h1 : 1 ≤ n) (h2 : n ≤ lastN) : Dated n (dateN n).1 (dateN n).2.1 (dateN n).2.2 := by
  unfold dateN
  rw [dif_pos ⟨h1, h2⟩]
  exact Classical.choose_spec (Classical.choose_spec (Classical.choose_spec (dated n h1 h2)))
def wdN (n : Nat) : Nat := (n - 1) % 7
noncomputable def monthN (n : Nat) : Nat := longN (leapB ((dateN n).1 : Int)) (dateN n).2.1
/-- A period. -/
noncomputable def perN (f : Int) (n : Nat) : Nat × Nat :=
  if f = 1 then (n - wdN n, min (n - wdN n + 6) lastN)
  else if f = 2 then (n + 1 - (dateN n).2.2, n - (dateN n).2.2 + monthN n)
  else if f = 3 then (aheadN (dateN n).1 + 1, aheadN (dateN n).1 + (if leapB ((dateN n).1 : Int) then 366 else 365))
  else (n, n)
/-- A rule. -/
structure RuleD where
  freq : Int
  interval : Int
  count : Int
  til : Int
  months : List Int
  days : List Int
  wdays : List (Int × Int)
  pos : List Int
def IntsAt (W : World) (v : Value) (l : List Int) : Prop := (∃ a c, v = .slice a 0 c ∧ l = []) ∨ ∃ b o c, v = .slice (some ⟨b, o, none⟩) l.length c ∧ ∀ (j : Nat) z, l[j]? = some z → W.cell? ⟨b, o + j, none⟩ = some (.int .i64 z)
def NthsAt (W : World) (v : Value) (l : List (Int × Int)) : Prop := (∃ a c, v = .slice a 0 c ∧ l = []) ∨ ∃ b o c, v = .slice (some ⟨b, o, none⟩) l.length c ∧ ∀ (j : Nat) z, l[j]? = some z → W.cell? ⟨b, o + j * 2, none⟩ = some (.int .i64 z.1) ∧ W.cell? ⟨b, o + j * 2 + 1, none⟩ = some (.int .i64 z.2)
def RuleV (W : World) (v : Value) (r : RuleD) : Prop := ∃ sm sd sw sp, v = .agg #[.int .i64 r.freq, .int .i64 r.interval, .int .i64 r.count, .int .i64 r.til, sm, sd, sw, sp] ∧ IntsAt W sm r.months ∧ IntsAt W sd r.days ∧ NthsAt W sw r.wdays ∧ IntsAt W sp r.pos
def nthN (w : Int × Int) (n : Nat) (s : Nat × Nat) : Bool :=
  if (wdN n : Int) ≠ w.2 then false
  else if 0 < w.1 then decide ((((n - s.1) / 7 : Nat) : Int) = w.1 - 1)
  else if w.1 < 0 then decide ((((s.2 - n) / 7 : Nat) : Int) = -w.1 - 1)
  else true
noncomputable def weekdayN (r : RuleD) (n : Nat) : Bool := r.wdays.isEmpty || r.wdays.any fun w => nthN w n (perN (if r.freq = 3 ∧ r.months = [] then 3 else 2) n)
noncomputable def monthdayN (r : RuleD) (n : Nat) : Bool := r.days.isEmpty || r.days.contains ((dateN n).2.2 : Int) || r.days.contains (((dateN n).2.2 : Int) - monthN n - 1)
noncomputable def letsN (r : RuleD) (s n : Nat) : Bool :=
  if (!r.months.isEmpty && !r.months.contains ((dateN n).2.1 : Int)) || !monthdayN r n || !weekdayN r n then false
  else if decide (r.freq = 0) || !r.wdays.isEmpty || !r.days.isEmpty then true
  else if r.freq = 1 then decide (wdN n = wdN s)
  else decide ((dateN n).2.2 = (dateN s).2.2) && (decide (r.freq = 2) || !r.months.isEmpty || decide ((dateN n).2.1 = (dateN s).2.1))
/-- The days of a period that the lists let. -/
noncomputable def allN (r : RuleD) (s : Nat) (p : Nat × Nat) : List Nat := (List.range' p.1 (p.2 + 1 - p.1)).filter (letsN r s)
noncomputable def inN (r : RuleD) (s : Nat) (p : Nat × Nat) : List Nat :=
  if r.pos.isEmpty then allN r s p
  else (allN r s p).zipIdx.filterMap fun x => if r.pos.contains ((x.2 : Int) + 1) || r.pos.contains ((x.2 : Int) - (allN r s p).length) then some x.1 else none

/-! ### The civil functions, for walks -/
theorem Varsb {w w1 : World} (h : Vars gl w) (hB : Below w.heap.size w w1) : Vars gl w1 := by
  obtain ⟨m, hm⟩ := h
  refine ⟨m, fun σ hσ => ?_⟩
  obtain ⟨ρ, hR⟩ := hm σ hσ
  exact ⟨_, (hR.frame hB).start glOK (by kernel_rfl)⟩
theorem CVc {f : FuncId} {va : Array Value} {u : Value} (h : CV f va u) {w : World} (hw : Vars gl w) : Calls Tryz.prog f va w fun e w' => e = .returned u ∧ Below w.heap.size w w' := h w (varsC hw) trivial
theorem date_calls {n : Nat} (h1 : 1 ≤ n) (h2 : n ≤ lastN) {w : World} (hw : Vars gl w) : Calls Tryz.prog fDate #[.int .i64 (n : Int)] w fun e w' => e = .returned (.tuple #[.int .i64 ((dateN n).1 : Int), .int .i64 ((dateN n).2.1 : Int), .int .i64 ((dateN n).2.2 : Int)]) ∧ Below w.heap.size w w' :=
  CVc (dateN_dated h1 h2).c hw
theorem long_calls {n : Nat} (h1 : 1 ≤ n) (h2 : n ≤ lastN) {w : World} (hw : Vars gl w) : Calls Tryz.prog fLong #[.int .i64 ((dateN n).1 : Int), .int .i64 ((dateN n).2.1 : Int)] w fun e w' => e = .returned (.int .i64 (monthN n : Int)) ∧ Below w.heap.size w w' :=
  CVc (c_long _ (dateN_dated h1 h2).m1 (dateN_dated h1 h2).m2) hw
theorem wday_calls {n : Nat} (h1 : 1 ≤ n) (h2 : n ≤ lastN) (w : World) : Calls Tryz.prog fWeekday #[.int .i64 (n : Int)] w fun e w' => e = .returned (.int .i64 (wdN n : Int)) ∧ w' = w := by
  have h2 : n ≤ 3652059 := h2
  have q1 : (1 : Int) ≤ (n : Int) := by omega
  have q2 : (n : Int) ≤ 3652059 := by omega
  go_enter Tryz.func16, Tryz.ntmps16
  go_wp2
  refine bodyPost_ret (results_tmp rfl _ _ _) rfl ⟨?_, rfl⟩
  show Ending.returned (.int .i64 (((n : Int) - 1) % 7)) = _
  unfold wdN
  congr 2
  omega
/-- A block of two cells. -/
def Box2 (W : World) (B : Nat) (t : TypeId) (x y : Value) : Prop := W.heap[B]? = some (.cells #[x, y] t (0, 0))
section
variable {W W' : World} {B : Nat} {t : TypeId} {x y : Value}
theorem Box2.lt (h : Box2 W B t x y) : B < W.heap.size := (Array.getElem?_eq_some_iff.1 h).1
theorem Box2.c0 (h : Box2 W B t x y) : W.cell? ⟨B, 0, none⟩ = some x := by simp [World.cell?, show W.heap[B]? = _ from h]
theorem Box2.c1 (h : Box2 W B t x y) : W.cell? ⟨B, 1, none⟩ = some y := by simp [World.cell?, show W.heap[B]? = _ from h]
theorem Box2.frozen (h : Box2 W B t x y) (o : Nat) : W.frozen? ⟨B, o, none⟩ = false := by simp [World.frozen?, show W.heap[B]? = _ from h]
theorem Box2.keep (h : Box2 W B t x y) (hb : W'.heap[B]? = W.heap[B]?) : Box2 W' B t x y := hb.trans h
theorem Box2.set0 (h : Box2 W B t x y) (x' : Value) : Box2 (W.setCell ⟨B, 0, none⟩ x') B t x' y := by
  unfold Box2 at h ⊢
  simp [World.setCell, Array.getElem?_modify, h]
theorem Box2.set1 (h : Box2 W B t x y) (y' : Value) : Box2 (W.setCell ⟨B, 1, none⟩ y') B t x y' := by
  unfold Box2 at h ⊢
  simp [World.setCell, Array.getElem?_modify, h]
theorem Box2.new (W : World) (t : TypeId) (x y : Value) : Box2 (W.alloc (.cells #[x, y] t)) W.heap.size t x y := World.alloc_heap_new W _
end
theorem belowDrewN {B : Nat} {a w : World} (h : Below B a w) (q : Nat) : Below B a (w.drewN q) := ⟨h.os, h.tape, h.output, h.size, h.block⟩
theorem belowSet {n : Nat} {A B : World} (h : Below n A B) (a : Addr) (v : Value) (ha : n ≤ a.block) : Below n A (B.setCell a v) :=
  ⟨h.os, h.tape, h.output, by have := h.size; simpa [World.setCell] using this, fun k hk => by
    have : a.block ≠ k := fun e => by omega
    have h2 := h.block k hk
    simpa [World.setCell, Array.getElem?_modify, this] using h2⟩
end Go.Proofs.YtjhnpcnamclfbaaGreatDoor
