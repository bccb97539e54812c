/- The contract of a day's date. No condition. -/
import Derived.Test.YtnnhijfbdkokkaaGreatDoorCd0
import Derived.Test.YtnnhijfbdkokkaaGreatDoorCd1
import Derived.Test.YtnnhijfbdkokkaaGreatDoorCd2
import Derived.Test.YtnnhijfbdkokkaaGreatDoorCd3
namespace Go.Proofs.YtnnhijfbdkokkaaGreatDoor
open Go Go.Eng Go.RowKit
noncomputable section
set_option maxRecDepth 100000

theorem and_both {a b : Bool} (h : (a && b) = true) (l : Bool) : (if l then b else a) = true := by
  rw [Bool.and_eq_true] at h
  cases l
  · exact h.1
  · exact h.2
theorem runDate_all {k mm : Nat} (hk : k ≤ 28) (h1 : 1 ≤ mm) (h2 : mm ≤ 12) (l : Bool) : runDate k mm l = true := by
  have key : ∀ {k}, allB (fun mm => runDate k mm false && runDate k mm true) months12 = true → runDate k mm l = true := by
    intro k h
    have := and_both (allB_spec h mm (months12_mem h1 h2)) l
    cases l <;> exact this
  have : k = 0 ∨ k = 1 ∨ k = 2 ∨ k = 3 ∨ k = 4 ∨ k = 5 ∨ k = 6 ∨ k = 7 ∨ k = 8 ∨ k = 9 ∨ k = 10 ∨ k = 11 ∨ k = 12 ∨ k = 13 ∨ k = 14 ∨ k = 15 ∨ k = 16 ∨ k = 17 ∨ k = 18 ∨ k = 19 ∨ k = 20 ∨ k = 21 ∨ k = 22 ∨ k = 23 ∨ k = 24 ∨ k = 25 ∨ k = 26 ∨ k = 27 ∨ k = 28 := by omega
  rcases this with rfl | rfl | rfl | rfl | rfl | rfl | rfl | rfl | rfl | rfl | rfl | rfl | rfl | rfl | rfl | rfl | rfl | rfl | rfl | rfl | rfl | rfl | rfl | rfl | rfl | rfl | rfl | rfl | rfl
  · exact key runDate00
  · exact key runDate01
  · exact key runDate02
  · exact key runDate03
  · exact key runDate04
  · exact key runDate05
  · exact key runDate06
  · exact key runDate07
  · exact key runDate08
  · exact key runDate09
  · exact key runDate10
  · exact key runDate11
  · exact key runDate12
  · exact key runDate13
  · exact key runDate14
  · exact key runDate15
  · exact key runDate16
  · exact key runDate17
  · exact key runDate18
  · exact key runDate19
  · exact key runDate20
  · exact key runDate21
  · exact key runDate22
  · exact key runDate23
  · exact key runDate24
  · exact key runDate25
  · exact key runDate26
  · exact key runDate27
  · exact key runDate28

def sgDate (n y0 k : Nat) (l : Bool) (i : Nat) : Value :=
  if i = 0 then .int .i64 n else if i = 1 then .int .i64 ((n : Int) - 1) else if i = 2 then .int .i64 (((n : Int) - 1).tdiv 366) else if i < 10 then .nilIface else if i < 49 then .int .i64 ((y0 + (i - 10) : Nat) : Int)
  else if i < 99 then .int .i64 (aheadI ((y0 + (i - 49) : Nat) : Int)) else .int .i64 ((n : Int) - aheadN (y0 + k) - daysM l (i - 100))
theorem withM_ne {σ : Nat → Value} {m : Int} {i : Nat} (h : i ≠ 900) : withM σ m i = σ i := by
  unfold withM kM
  have : Nat.beq i 900 = false := by
    cases hb : Nat.beq i 900 with
    | false => rfl
    | true => exact absurd (Nat.eq_of_beq_eq_true hb) h
  rw [this]
theorem conc_at {σ : Nat → Value} {m : Int} {i : Nat} {k : IntKind} {x : Int} (h : i ≠ 900) (e : σ i = .int k x) : conc (withM σ m) (.sym i) = .int k x := by
  show concS i (withM σ m i) = _
  rw [withM_ne h, e]; rfl

section
variable {n y0 k : Nat} {l : Bool}
theorem sy {i : Nat} (h : i < 39) : sgDate n y0 k l (10 + i) = .int .i64 ((y0 + i : Nat) : Int) := by
  unfold sgDate
  rw [if_neg (by omega), if_neg (by omega), if_neg (by omega), if_neg (by omega), if_pos (by omega), Nat.add_sub_cancel_left]
theorem sa {i : Nat} (h : i < 50) : sgDate n y0 k l (49 + i) = .int .i64 (aheadI ((y0 + i : Nat) : Int)) := by
  unfold sgDate
  rw [if_neg (by omega), if_neg (by omega), if_neg (by omega), if_neg (by omega), if_neg (by omega), if_pos (by omega), Nat.add_sub_cancel_left]
theorem sd {i : Nat} : sgDate n y0 k l (100 + i) = .int .i64 ((n : Int) - aheadN (y0 + k) - daysM l i) := by
  unfold sgDate
  rw [if_neg (by omega), if_neg (by omega), if_neg (by omega), if_neg (by omega), if_neg (by omega), if_neg (by omega), Nat.add_sub_cancel_left]
end
theorem daysM_le (l : Bool) : ∀ m, daysM l m ≤ 31 * m
  | 0 => Nat.le_refl _
  | m + 1 => by
    have := daysM_le l m
    have h2 : longN l (m + 1) ≤ 31 := by unfold longN; split <;> first | omega | (cases l <;> decide)
    show daysM l m + longN l (m + 1) ≤ _
    omega
theorem daysM_mono (l : Bool) {a b : Nat} (h : a ≤ b) : daysM l a ≤ daysM l b := by
  induction b with
  | zero => have : a = 0 := by omega
            subst this; exact Nat.le_refl _
  | succ b ih =>
    rcases Nat.lt_or_ge b a with hb | hb
    · have : a = b + 1 := by omega
      subst this; exact Nat.le_refl _
    · exact Nat.le_trans (ih hb) (Nat.le_add_right _ _)

theorem c_date (n : Nat) (h1 : 1 ≤ n) (h2 : n ≤ 3652059) : ∃ y mm d : Nat, 1 ≤ y ∧ y ≤ 9999 ∧ 1 ≤ mm ∧ mm ≤ 12 ∧ 1 ≤ d ∧ d ≤ longN (leapB (y : Int)) mm ∧ n = aheadN y + daysM (leapB (y : Int)) (mm - 1) + d ∧
    CV fDate #[.int .i64 (n : Int)] (.tuple #[.int .i64 (y : Int), .int .i64 (mm : Int), .int .i64 (d : Int)]) := by
  obtain ⟨y, y1, y2, hlo, hhi⟩ := year_of n h1 h2
  have hy0 := year0_le h1 hhi
  have hnear := year0_near y2 hlo
  obtain ⟨k, hk⟩ : ∃ k, y = year0 n + k := ⟨y - year0 n, by omega⟩
  have hk28 : k ≤ 28 := by omega
  have hstep := ahead_step y y1
  have hd1 : 1 ≤ n - aheadN y := by omega
  have hd2 : n - aheadN y ≤ daysM (leapB (y : Int)) 12 := by
    rw [days12]
    cases hlp : leapB (y : Int) <;> simp [hlp] at hstep ⊢ <;> omega
  obtain ⟨mm, m1, m2, hml, hmh⟩ := month_of (leapB (y : Int)) (n - aheadN y) hd1 hd2
  have hlong : daysM (leapB (y : Int)) mm = daysM (leapB (y : Int)) (mm - 1) + longN (leapB (y : Int)) mm := by
    obtain ⟨q, rfl⟩ : ∃ q, mm = q + 1 := ⟨mm - 1, by omega⟩
    rfl
  refine ⟨y, mm, n - aheadN y - daysM (leapB (y : Int)) (mm - 1), y1, y2, m1, m2, by omega, by omega, by omega, ?_⟩
  have hy0p : 1 ≤ year0 n := by unfold year0; omega
  have hay : aheadN (year0 n + k) = aheadN y := by rw [hk]
  generalize hl : leapB (y : Int) = l at *
  have hd0 : daysM l 0 = 0 := rfl
  have T := daysM_le l
  have Mo : ∀ {a b : Nat}, a ≤ b → daysM l a ≤ daysM l b := fun h => daysM_mono l h
  refine CallsV.script (E := E0) envOK 9 (σ := sgDate n (year0 n) k l) (orows := orDate k mm l) (krows := krDate k mm l) (fun m r hr => ?_) (fun m r hr => ?_) (rowRun_H (runDate_all hk28 m1 m2 l)) (fun m => ⟨_, _, rfl, ⟨rfl, rfl⟩, rfl⟩) (fun m => ?_) rfl
  · have c0 : conc (withM (sgDate n (year0 n) k l) m) (.sym 0) = .int .i64 (n : Int) := conc_at (by decide) rfl
    have c1 : conc (withM (sgDate n (year0 n) k l) m) (.sym 1) = .int .i64 ((n : Int) - 1) := conc_at (by decide) rfl
    have c2 : conc (withM (sgDate n (year0 n) k l) m) (.sym 2) = .int .i64 (((n : Int) - 1).tdiv 366) := conc_at (by decide) rfl
    have cy : ∀ i, i < 39 → conc (withM (sgDate n (year0 n) k l) m) (.sym (10 + i)) = .int .i64 ((year0 n + i : Nat) : Int) := fun i hi => conc_at (by omega) (sy hi)
    have ca : ∀ i, i < 50 → conc (withM (sgDate n (year0 n) k l) m) (.sym (49 + i)) = .int .i64 (aheadI ((year0 n + i : Nat) : Int)) := fun i hi => conc_at (by omega) (sa hi)
    have cd : ∀ i, i < 700 → conc (withM (sgDate n (year0 n) k l) m) (.sym (100 + i)) = .int .i64 ((n : Int) - aheadN (year0 n + k) - daysM l i) := fun i hi => conc_at (by omega) sd
    have d366 : ((n : Int) - 1).tdiv 366 = ((n : Int) - 1) / 366 := Int.tdiv_eq_ediv_of_nonneg (by omega)
    have hyk : year0 n + k = y := hk.symm
    unfold orDate at hr
    rcases List.mem_append.1 hr with hr | hr
    · simp only [List.mem_cons, List.mem_nil_iff, or_false] at hr
      rcases hr with rfl | rfl | rfl | rfl | rfl | rfl | rfl
      · exact RowOK.cmp .i64 (x := (n : Int)) (y := 1) c0 rfl (.inr (.inr (.inr (.inr (.inr ⟨rfl, by symm; rw [decide_eq_true_eq]; omega⟩)))))
      · exact RowOK.cmp .i64 (x := (n : Int)) (y := 3652059) c0 rfl (.inr (.inr (.inr (.inl ⟨rfl, by symm; rw [decide_eq_true_eq]; omega⟩))))
      · exact RowOK.sub64 (x := (n : Int)) (y := 1) c0 rfl c1 rfl (by omega) (by omega)
      · exact RowOK.quo64 (x := (n : Int) - 1) (y := 366) c1 rfl c2 (by decide) rfl (by omega) (by omega)
      · exact RowOK.add64 (x := ((n : Int) - 1).tdiv 366) (y := 1) c2 rfl (cy 0 (by omega)) (by rw [d366]; unfold year0; omega) (by omega) (by unfold year0; omega)
      · exact RowOK.sub64 (x := (n : Int)) (y := aheadI ((year0 n + k : Nat) : Int)) c0 (ca k (by omega)) (cd 0 (by omega)) (by rw [ahead_eq (by omega)]; show _ = (n : Int) - aheadN (year0 n + k) - ((0 : Nat) : Int); omega) (by omega) (by omega)
      · exact RowOK.conv (u := tDay) (d := tDay) (k := .i64) (k' := .i64) (n := (n : Int)) (by show und E0 28 = some (.int .i64); kernel_rfl) (by show und E0 28 = some (.int .i64); kernel_rfl) c0 (by rw [c0, wrap64_id (by omega) (by omega)]) (by decide)
    · rcases List.mem_append.1 hr with hr | hr
      · obtain ⟨i, hi, hr⟩ := flatR_mem hr
        simp only [orYear, List.mem_cons, List.mem_nil_iff, or_false] at hr
        rcases hr with rfl | rfl
        · exact RowOK.add64 (x := ((year0 n + i : Nat) : Int)) (y := 1) (cy i (by omega)) rfl (show conc _ (.sym (11 + i)) = _ from by rw [show 11 + i = 10 + (i + 1) by omega]; exact cy (i + 1) (by omega)) (by omega) (by omega) (by omega)
        · refine RowOK.cmp .i64 (x := aheadI ((year0 n + (i + 1) : Nat) : Int)) (y := (n : Int)) (show conc _ (.sym (50 + i)) = _ from by rw [show 50 + i = 49 + (i + 1) by omega]; exact ca (i + 1) (by omega)) c0 (.inr (.inr (.inl ⟨rfl, ?_⟩)))
          rw [ahead_eq (by omega), blt_iff]
          have hmo1 : i < k → aheadN (year0 n + (i + 1)) ≤ aheadN y := fun hik => ahead_mono (by omega) (by omega)
          have hmo2 : ¬ i < k → aheadN (y + 1) ≤ aheadN (year0 n + (i + 1)) := fun hik => ahead_mono (by omega) (by omega)
          by_cases hik : i < k
          · have := hmo1 hik
            rw [decide_eq_true hik]; symm; rw [decide_eq_true_eq]; omega
          · have := hmo2 hik
            rw [decide_eq_false hik]; symm; rw [decide_eq_false_iff_not]; omega
      · obtain ⟨j, hj, hr⟩ := flatR_mem hr
        simp only [orMonth, List.mem_cons, List.mem_nil_iff, or_false] at hr
        have hs : daysM l (j + 1) = daysM l j + longN l (j + 1) := rfl
        have t1 := T (j + 1)
        rcases hr with rfl | rfl
        · refine RowOK.cmp .i64 (x := (n : Int) - aheadN (year0 n + k) - daysM l j) (y := ((longN l (j + 1) : Nat) : Int)) (cd j (by omega)) rfl (.inr (.inr (.inr (.inr (.inl ⟨rfl, ?_⟩)))))
          rw [blt_iff, hyk]
          by_cases hjm : j + 1 < mm
          · have := Mo (a := j + 1) (b := mm - 1) (by omega)
            rw [show decide (Nat.succ j < mm) = true from decide_eq_true hjm]; symm; rw [decide_eq_true_eq]; omega
          · have : mm = j + 1 := by omega
            subst this
            rw [show decide (Nat.succ j < j + 1) = false from decide_eq_false (by omega)]; symm; rw [decide_eq_false_iff_not]; omega
        · exact RowOK.sub64 (x := (n : Int) - aheadN (year0 n + k) - daysM l j) (y := ((longN l (j + 1) : Nat) : Int)) (cd j (by omega)) rfl (show conc _ (.sym (101 + j)) = _ from by rw [show 101 + j = 100 + (j + 1) by omega]; exact cd (j + 1) (by omega)) (by rw [hs]; omega) (by omega) (by omega)
  · unfold krDate at hr
    rcases List.mem_append.1 hr with hr | hr
    · obtain ⟨j, hj, rfl⟩ := List.mem_map.1 hr
      have hj := upTo_mem.1 hj
      exact KRow.ofV glC_OK glC_bare (withM_kM _ _) rfl (va := #[.int .i64 ((year0 n + j : Nat) : Int)]) ⟨_, _, rfl, ⟨by show Value.int .i64 _ = withM _ _ (10 + j); rw [withM_ne (show 10 + j ≠ 900 by omega)]; exact (sy (by omega)).symm, rfl⟩, rfl⟩ (.inl rfl) (u := .int .i64 (aheadI ((year0 n + j : Nat) : Int))) ⟨by show Value.int .i64 _ = withM _ _ (49 + j); rw [withM_ne (show 49 + j ≠ 900 by omega)]; exact (sa (by omega)).symm, rfl⟩ (c_ahead (by omega) (by omega))
    · obtain ⟨j, hj, rfl⟩ := List.mem_map.1 hr
      have hj := upTo_mem.1 hj
      have c := c_long ((year0 n + k : Nat) : Int) (m := j + 1) (by omega) (by omega)
      rw [← hk, hl] at c
      exact KRow.ofV glC_OK glC_bare (withM_kM _ _) rfl (va := #[.int .i64 ((year0 n + k : Nat) : Int), .int .i64 ((j + 1 : Nat) : Int)]) ⟨_, _, rfl, ⟨by show Value.int .i64 _ = withM _ _ (10 + k); rw [withM_ne (show 10 + k ≠ 900 by omega)]; exact (sy (by omega)).symm, rfl⟩, _, _, rfl, rfl, rfl⟩ (.inl rfl) (u := .int .i64 ((longN l (j + 1) : Nat) : Int)) rfl (by rw [← hk]; exact c)
  · refine ⟨_, rfl, _, _, rfl, ⟨?_, rfl⟩, _, _, rfl, rfl, _, _, rfl, ⟨?_, rfl⟩, rfl⟩
    · show Value.int .i64 _ = withM _ _ (10 + k)
      rw [withM_ne (show 10 + k ≠ 900 by omega), sy (by omega), ← hk]
    · show Value.int .i64 _ = withM _ _ (99 + mm)
      rw [withM_ne (show 99 + mm ≠ 900 by omega), show 99 + mm = 100 + (mm - 1) by omega, sd, hay]
      congr 1; omega
end
end Go.Proofs.YtnnhijfbdkokkaaGreatDoor
