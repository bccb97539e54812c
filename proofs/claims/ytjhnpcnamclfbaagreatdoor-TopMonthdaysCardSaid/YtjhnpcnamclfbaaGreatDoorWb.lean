/- Weeks, months, years touch; the days that a rule has, by a test. The rules of the laws: what they have. The rules of the laws, on. Requests: rows of their parts. A request's bytes: how they are cut, joined, and written: plain laws, and the rows they give. Requests: their parts' rows are so, whatever else the symbols stand for. Contracts by closed runs that look at memory; rows with structs. Contracts at any input: Long, Of, Atoi, Parse. The contract of Parse at any string. No condition. -/
import Derived.Test.YtjhnpcnamclfbaaGreatDoorZl
import Derived.Test.YtjhnpcnamclfbaaGreatDoorZa
import Derived.Test.YtjhnpcnamclfbaaGreatDoorCe
import Derived.Lib.SmallJoins
import Derived.Test.YtjhnpcnamclfbaaGreatDoorE14
/-! Weeks, months, years touch; the days that a rule has, by a test. -/
namespace Go.Proofs.YtjhnpcnamclfbaaGreatDoor
open Go Go.Eng Go.RowKit

theorem daysM_at (l : Bool) {mm : Nat} (h : 1 ≤ mm) : daysM l mm = daysM l (mm - 1) + longN l mm := by
  obtain ⟨q, rfl⟩ : ∃ q, mm = q + 1 := ⟨mm - 1, by omega⟩
  rfl
theorem long_31 (l : Bool) {mm : Nat} (h1 : 1 ≤ mm) (h2 : mm ≤ 12) : 28 ≤ longN l mm ∧ longN l mm ≤ 31 := by
  have : ∀ l : Bool, ∀ mm, mm < 13 → 1 ≤ mm → 28 ≤ longN l mm ∧ longN l mm ≤ 31 := by decide
  exact this l mm (by omega) h1
theorem ahead_end : aheadN 10000 = lastN := by decide
theorem num_hi {y mm d : Nat} (y1 : 1 ≤ y) (m1 : 1 ≤ mm) (m2 : mm ≤ 12) (d2 : d ≤ longN (leapB (y : Int)) mm) : aheadN y + daysM (leapB (y : Int)) (mm - 1) + d ≤ aheadN (y + 1) := by
  have h1 := daysM_at (leapB (y : Int)) m1
  have h2 := daysM_mono (leapB (y : Int)) m2
  rw [days12] at h2
  have h3 := ahead_step y y1
  omega
theorem num_uniq {y mm d y' mm' d' : Nat} (y1 : 1 ≤ y) (m1 : 1 ≤ mm) (m2 : mm ≤ 12) (d1 : 1 ≤ d) (d2 : d ≤ longN (leapB (y : Int)) mm) (y1' : 1 ≤ y') (m1' : 1 ≤ mm') (m2' : mm' ≤ 12) (d1' : 1 ≤ d') (d2' : d' ≤ longN (leapB (y' : Int)) mm')
    (e : aheadN y + daysM (leapB (y : Int)) (mm - 1) + d = aheadN y' + daysM (leapB (y' : Int)) (mm' - 1) + d') : y = y' ∧ mm = mm' ∧ d = d' := by
  have h1 := num_hi y1 m1 m2 d2
  have h2 := num_hi y1' m1' m2' d2'
  have hy : y = y' := by
    rcases Nat.lt_trichotomy y y' with h | h | h
    · have := ahead_mono (y := y + 1) (z := y') (by omega) h; omega
    · exact h
    · have := ahead_mono (y := y' + 1) (z := y) (by omega) h; omega
  subst hy
  have hm : mm = mm' := by
    have e1 := daysM_at (leapB (y : Int)) m1
    have e2 := daysM_at (leapB (y : Int)) m1'
    rcases Nat.lt_trichotomy mm mm' with h | h | h
    · have := daysM_mono (leapB (y : Int)) (show mm ≤ mm' - 1 by omega); omega
    · exact h
    · have := daysM_mono (leapB (y : Int)) (show mm' ≤ mm - 1 by omega); omega
  subst hm
  exact ⟨rfl, rfl, by omega⟩
theorem num_last {y mm d : Nat} (y1 : 1 ≤ y) (y2 : y ≤ 9999) (m1 : 1 ≤ mm) (m2 : mm ≤ 12) (d2 : d ≤ longN (leapB (y : Int)) mm) : aheadN y + daysM (leapB (y : Int)) (mm - 1) + d ≤ lastN := by
  have h1 := num_hi y1 m1 m2 d2
  have h2 := ahead_mono (y := y + 1) (z := 10000) (by omega) (by omega)
  rw [ahead_end] at h2
  omega
theorem dateN_of {n y mm d : Nat} (y1 : 1 ≤ y) (y2 : y ≤ 9999) (m1 : 1 ≤ mm) (m2 : mm ≤ 12) (d1 : 1 ≤ d) (d2 : d ≤ longN (leapB (y : Int)) mm) (e : n = aheadN y + daysM (leapB (y : Int)) (mm - 1) + d) : dateN n = (y, mm, d) := by
  have hd := dateN_dated (n := n) (by omega) (by rw [e]; exact num_last y1 y2 m1 m2 d2)
  have := num_uniq hd.y1 hd.m1 hd.m2 hd.d1 hd.d2 y1 m1 m2 d1 d2 (by rw [← hd.e, ← e])
  obtain ⟨e1, e2, e3⟩ := this
  generalize dateN n = t at e1 e2 e3
  obtain ⟨a, b, c⟩ := t
  simp only at e1 e2 e3
  rw [e1, e2, e3]
theorem perN2 (n : Nat) : perN 2 n = (n + 1 - (dateN n).2.2, n - (dateN n).2.2 + monthN n) := by
  unfold perN
  rw [if_neg (by decide), if_pos rfl]
theorem perN1 (n : Nat) : perN 1 n = (n - wdN n, min (n - wdN n + 6) lastN) := by
  unfold perN
  rw [if_pos rfl]
/-- A month, by its year and number. -/
theorem month_of_date {n : Nat} (h1 : 1 ≤ n) (h2 : n ≤ lastN) : ∃ y mm d : Nat, 1 ≤ y ∧ y ≤ 9999 ∧ 1 ≤ mm ∧ mm ≤ 12 ∧ 1 ≤ d ∧ d ≤ longN (leapB (y : Int)) mm ∧ n = aheadN y + daysM (leapB (y : Int)) (mm - 1) + d ∧ dateN n = (y, mm, d) ∧ monthN n = longN (leapB (y : Int)) mm ∧
    perN 2 n = (aheadN y + daysM (leapB (y : Int)) (mm - 1) + 1, aheadN y + daysM (leapB (y : Int)) mm) := by
  have hd := dateN_dated h1 h2
  refine ⟨(dateN n).1, (dateN n).2.1, (dateN n).2.2, hd.y1, hd.y2, hd.m1, hd.m2, hd.d1, hd.d2, hd.e, rfl, rfl, ?_⟩
  have e := hd.e
  have hd1 := hd.d1
  have h3 := daysM_at (leapB ((dateN n).1 : Int)) hd.m1
  rw [perN2]
  have em : monthN n = longN (leapB ((dateN n).1 : Int)) (dateN n).2.1 := rfl
  rw [em]
  ext
  · show n + 1 - (dateN n).2.2 = _; omega
  · show n - (dateN n).2.2 + _ = _; omega
/-- The month behind one. -/
theorem next_month {n : Nat} (h1 : 1 ≤ n) (h2 : n ≤ lastN) (h3 : (perN 2 n).2 < lastN) : ∃ y mm : Nat, 1 ≤ y ∧ y ≤ 9999 ∧ 1 ≤ mm ∧ mm ≤ 12 ∧ (mm = (dateN n).2.1 + 1 ∨ (mm = 1 ∧ (dateN n).2.1 = 12)) ∧ (perN 2 n).2 = aheadN y + daysM (leapB (y : Int)) (mm - 1) := by
  obtain ⟨y, mm, d, y1, y2, m1, m2, d1, d2, e, hd, _, hp⟩ := month_of_date h1 h2
  rw [hp, hd]
  rw [hp] at h3
  rcases Nat.lt_or_ge mm 12 with h | h
  · exact ⟨y, mm + 1, y1, y2, by omega, by omega, .inl rfl, by simp⟩
  · have hm : mm = 12 := by omega
    subst hm
    have h3 : aheadN y + daysM (leapB (y : Int)) 12 < lastN := h3
    rw [days12] at h3
    have h4 := ahead_step y y1
    have h5 : y + 1 ≤ 9999 := by
      rcases Nat.lt_or_ge 9998 y with h6 | h6
      · have : y = 9999 := by omega
        subst this
        have : aheadN (9999 + 1) = lastN := ahead_end
        omega
      · omega
    refine ⟨y + 1, 1, by omega, h5, by omega, by omega, .inr ⟨rfl, rfl⟩, ?_⟩
    show aheadN y + daysM (leapB (y : Int)) 12 = aheadN (y + 1) + 0
    rw [days12, h4]
    omega
theorem touch2 : Touch 2 := by
  intro n h1 h2 h3
  obtain ⟨y, mm, y1, y2, m1, m2, _, e⟩ := next_month h1 h2 h3
  have := dateN_of (n := (perN 2 n).2 + 1) y1 y2 m1 m2 (Nat.le_refl 1) (by have := (long_31 (leapB (y : Int)) m1 m2).1; omega) (by rw [e])
  rw [perN2 ((perN 2 n).2 + 1), this]
  show (perN 2 n).2 + 1 + 1 - 1 = _
  omega
/-- A period is each of its days'. -/
def OwnPer (f : Int) : Prop := ∀ m n, 1 ≤ m → m ≤ lastN → (perN f m).1 ≤ n → n ≤ (perN f m).2 → perN f n = perN f m
theorem own1 : OwnPer 1 := by
  intro m n h1 h2 h3 h4
  rw [perN1] at h3 h4 ⊢
  rw [perN1]
  unfold wdN at h3 h4 ⊢
  simp only at h3 h4 ⊢
  have : n - (n - 1) % 7 = m - (m - 1) % 7 := by omega
  rw [this]
theorem own2 : OwnPer 2 := by
  intro m n h1 h2 h3 h4
  obtain ⟨y, mm, d, y1, y2, m1, m2, d1, d2, e, hd, hl, hp⟩ := month_of_date h1 h2
  rw [hp] at h3 h4 ⊢
  simp only at h3 h4
  have h5 := daysM_at (leapB (y : Int)) m1
  have hn := dateN_of (n := n) (d := n - (aheadN y + daysM (leapB (y : Int)) (mm - 1))) y1 y2 m1 m2 (by omega) (by omega) (by omega)
  have : monthN n = longN (leapB (y : Int)) mm := by unfold monthN; rw [hn]
  rw [perN2, hn, this]
  ext
  · show n + 1 - (n - (aheadN y + daysM (leapB (y : Int)) (mm - 1))) = _; omega
  · show n - (n - (aheadN y + daysM (leapB (y : Int)) (mm - 1))) + _ = _; omega
/-! ### What a rule has -/
theorem sorted_ext : ∀ {a b : List Nat}, a.Pairwise (· < ·) → b.Pairwise (· < ·) → (∀ x, x ∈ a ↔ x ∈ b) → a = b
  | [], [], _, _, _ => rfl
  | [], y :: b, _, _, h => absurd ((h y).2 List.mem_cons_self) (by simp)
  | x :: a, [], _, _, h => absurd ((h x).1 List.mem_cons_self) (by simp)
  | x :: a, y :: b, ha, hb, h => by
    rw [List.pairwise_cons] at ha hb
    have e : x = y := by
      have h1 := (h x).1 List.mem_cons_self
      have h2 := (h y).2 List.mem_cons_self
      rcases List.mem_cons.1 h1 with h1 | h1
      · exact h1
      · rcases List.mem_cons.1 h2 with h2 | h2
        · exact h2.symm
        · have := hb.1 x h1; have := ha.1 y h2; omega
    subst e
    congr 1
    refine sorted_ext ha.2 hb.2 fun z => ⟨fun hz => ?_, fun hz => ?_⟩
    · rcases List.mem_cons.1 ((h z).1 (List.mem_cons_of_mem _ hz)) with rfl | h1
      · exact absurd (ha.1 z hz) (Nat.lt_irrefl _)
      · exact h1
    · rcases List.mem_cons.1 ((h z).2 (List.mem_cons_of_mem _ hz)) with rfl | h1
      · exact absurd (hb.1 z hz) (Nat.lt_irrefl _)
      · exact h1
theorem zipf_sub {f : Nat × Nat → Option Nat} (hf : ∀ x y, f x = some y → y = x.1) : ∀ (l : List Nat) (k : Nat), ((l.zipIdx k).filterMap f).Sublist l
  | [], k => by simp
  | x :: l, k => by
    rw [List.zipIdx_cons, List.filterMap_cons]
    cases h : f (x, k) with
    | none => exact (zipf_sub hf l (k + 1)).cons _
    | some y =>
      have := hf _ _ h
      subst this
      exact (zipf_sub hf l (k + 1)).cons_cons _
theorem in_sub (r : RuleD) (s : Nat) (p : Nat × Nat) : (inN r s p).Sublist (allN r s p) := by
  unfold inN
  split
  · exact List.Sublist.refl _
  · refine zipf_sub (fun x y h => ?_) _ _
    split at h
    · exact (Option.some.inj h).symm
    · cases h
theorem in_sorted (r : RuleD) (s : Nat) (p : Nat × Nat) : (inN r s p).Pairwise (· < ·) := List.Pairwise.sublist (in_sub r s p) (fromTo_sorted _ _ _)
/-- Has the rule a day? -/
noncomputable def hasN (r : RuleD) (s x : Nat) : Bool := (inN r s (perN r.freq x)).contains x
theorem hasN_iff {r : RuleD} {s x : Nat} : hasN r s x = true ↔ x ∈ inN r s (perN r.freq x) := by unfold hasN; simp
theorem in_has {r : RuleD} {s : Nat} (ho : OwnPer r.freq) (p : SpT) (hp : IsPer r.freq p) : inN r s p.1 = fromTo (hasN r s) p.1.1 (p.1.2 + 1) := by
  obtain ⟨m, m1, m2, e⟩ := hp
  refine sorted_ext (in_sorted _ _ _) (fromTo_sorted _ _ _) fun x => ?_
  rw [mem_fromTo, hasN_iff]
  constructor
  · intro h
    have h1 := mem_fromTo.1 ((in_sub r s p.1).subset h)
    have := ho m x m1 m2 (by rw [← e]; exact h1.1) (by rw [← e]; omega)
    rw [this, ← e]
    exact ⟨h1.1, h1.2.1, h⟩
  · rintro ⟨h1, h2, h3⟩
    have := ho m x m1 m2 (by rw [← e]; exact h1) (by rw [← e]; omega)
    rwa [this, ← e] at h3
theorem mem_in_plain {r : RuleD} (hp : r.pos = []) {s x : Nat} {p : Nat × Nat} : x ∈ inN r s p ↔ p.1 ≤ x ∧ x ≤ p.2 ∧ letsN r s x = true := by
  have : inN r s p = fromTo (letsN r s) p.1 (p.2 + 1) := by unfold inN; rw [hp]; rfl
  rw [this, mem_fromTo]
  constructor
  · rintro ⟨h1, h2, h3⟩; exact ⟨h1, by omega, h3⟩
  · rintro ⟨h1, h2, h3⟩; exact ⟨h1, by omega, h3⟩
/-- Periods go on. -/
theorem atN_far {f : Int} (tch : Touch f) (ml : Nat) (hml : ∀ n, 1 ≤ n → n ≤ lastN → (perN f n).2 < lastN → (perN f n).1 + ml ≤ (perN f n).2 + 1) {s0 : SpT} (h0 : IsPer f s0) : ∀ {i : Nat} {s : SpT}, atN f 1 s0 (i + 1) = some s → s0.1.2 + 1 + i * ml ≤ s.1.1
  | i, s, h => by
    have h : (atN f 1 s0 i).bind (nextsN f 1) = some s := h
    cases hn : atN f 1 s0 i with
    | none => rw [hn] at h; cases h
    | some u =>
      rw [hn] at h
      have h : nextsN f 1 u = some s := h
      rw [nextsN_one] at h
      obtain ⟨m, m1, m2, em⟩ := atN_per h0 hn
      have hlt : u.1.2 < lastN := by have := nextN_lt h; have := s.2; omega
      have e1 : s.1.1 = u.1.2 + 1 := by
        rw [(nextN_per h).2, em]
        exact tch m m1 m2 (by rw [← em]; exact hlt)
      cases i with
      | zero => cases hn; omega
      | succ i =>
        have := atN_far tch ml hml h0 hn
        have h3 := hml m m1 m2 (by rw [← em]; exact hlt)
        rw [← em] at h3
        rw [Nat.succ_mul]
        omega
theorem ml2 (n : Nat) (h1 : 1 ≤ n) (h2 : n ≤ lastN) : (perN 2 n).1 + 28 ≤ (perN 2 n).2 + 1 ∧ (perN 2 n).2 + 1 ≤ (perN 2 n).1 + 31 := by
  obtain ⟨y, mm, d, y1, y2, m1, m2, d1, d2, e, hd, hl, hp⟩ := month_of_date h1 h2
  have h5 := daysM_at (leapB (y : Int)) m1
  have h6 := long_31 (leapB (y : Int)) m1 m2
  rw [hp]
  simp only
  omega
/-! ### How many there are -/
theorem count_ge {T : Nat → Bool} {b : Nat} : ∀ {xs : List Nat} {a : Nat}, xs.Pairwise (· < ·) → (∀ x ∈ xs, a ≤ x ∧ x < b ∧ T x = true) → xs.length ≤ (fromTo T a b).length
  | [], a, _, _ => Nat.zero_le _
  | x :: xs, a, hs, h => by
    rw [List.pairwise_cons] at hs
    obtain ⟨h1, h2, h3⟩ := h x List.mem_cons_self
    rw [fromTo_cat T h1 (Nat.le_of_lt h2), fromTo_cat T (Nat.le_succ x) h2]
    have e : fromTo T x (x + 1) = [x] := by
      unfold fromTo
      rw [show x + 1 - x = 1 by omega]
      show List.filter T [x] = [x]
      simp [h3]
    have := count_ge (T := T) (b := b) (xs := xs) (a := x + 1) hs.2 fun y hy => ⟨hs.1 y hy, (h y (List.mem_cons_of_mem _ hy)).2⟩
    rw [e]
    simp only [List.length_append, List.length_cons, List.length_nil, Nat.succ_eq_add_one]
    omega
theorem count_mono {T : Nat → Bool} {a b c : Nat} (h : b ≤ c) : (fromTo T a b).length ≤ (fromTo T a c).length := by
  rcases Nat.le_total a b with h1 | h1
  · rw [fromTo_cat T h1 h, List.length_append]; omega
  · rw [fromTo_nil T h1]; exact Nat.zero_le _
theorem count_win {T : Nat → Bool} {W top : Nat} (h : ∀ z, 1 ≤ z → z + W ≤ top → ∃ x, z ≤ x ∧ x < z + W ∧ T x = true) : ∀ (k a : Nat), 1 ≤ a → a + W * k ≤ top → k ≤ (fromTo T a (a + W * k)).length
  | 0, a, _, _ => Nat.zero_le _
  | k + 1, a, ha, ht => by
    rw [Nat.mul_succ] at ht ⊢
    obtain ⟨x, h1, h2, h3⟩ := h a ha (by omega)
    have ih := count_win h k (a + W) (by omega) (by omega)
    have e : a + (W * k + W) = a + W + W * k := by omega
    rw [e, fromTo_cat T (show a ≤ a + W by omega) (by omega), List.length_append]
    have := count_ge (T := T) (b := a + W) (xs := [x]) (a := a) (by simp) fun y hy => by
      rw [List.mem_singleton] at hy; subst hy; exact ⟨h1, h2, h3⟩
    simp only [List.length_singleton] at this
    omega
end Go.Proofs.YtjhnpcnamclfbaaGreatDoor

/-! The rules of the laws: what they have. -/
namespace Go.Proofs.YtjhnpcnamclfbaaGreatDoor
open Go Go.Eng Go.RowKit

end Go.Proofs.YtjhnpcnamclfbaaGreatDoor

/-! The rules of the laws, on. -/
namespace Go.Proofs.YtjhnpcnamclfbaaGreatDoor
open Go Go.Eng Go.RowKit

/-! ### The first and the last working day -/
/-! ### The nth weekday of the year -/
/-! ### Days of months from behind; as the start -/
def rMd (k : Nat) : RuleD := ⟨2, 1, 0, 0, [], [-(k : Int)], [], []⟩
theorem has_md {k s x : Nat} (h1 : 1 ≤ x) (h2 : x ≤ lastN) (hk : 1 ≤ k) : hasN (rMd k) s x = true ↔ monthN x + 1 = (dateN x).2.2 + k := by
  have hp := perN_ok 2 h1 h2
  have hd := dateN_dated h1 h2
  rw [hasN_iff, mem_in_plain rfl]
  show (perN 2 x).1 ≤ x ∧ x ≤ (perN 2 x).2 ∧ _ ↔ _
  have e : letsN (rMd k) s x = monthdayN (rMd k) x := by
    unfold letsN weekdayN
    simp only [rMd, List.isEmpty_nil, Bool.not_true, Bool.false_and, Bool.true_or, Bool.false_or, List.isEmpty_cons, Bool.not_false, Bool.or_true, if_true]
    cases monthdayN _ x <;> rfl
  rw [e]
  unfold monthdayN
  simp only [rMd, List.isEmpty_cons, Bool.false_or, Bool.or_eq_true, List.contains_eq_mem, List.mem_singleton, decide_eq_true_eq]
  have := hd.d1
  have := hd.d2
  have : monthN x = longN (leapB ((dateN x).1 : Int)) (dateN x).2.1 := rfl
  omega
/-- Of two months one has thirty-one days. -/
theorem win_31 {z : Nat} (h1 : 1 ≤ z) (h2 : z + 93 ≤ lastN) : ∃ y mm : Nat, 1 ≤ y ∧ y ≤ 9999 ∧ 1 ≤ mm ∧ mm ≤ 12 ∧ longN (leapB (y : Int)) mm = 31 ∧ z ≤ aheadN y + daysM (leapB (y : Int)) (mm - 1) + 1 ∧ aheadN y + daysM (leapB (y : Int)) (mm - 1) + 31 < z + 93 := by
  have hz : z ≤ lastN := by omega
  have hm := ml2 z h1 hz
  have hp := perN_ok 2 h1 hz
  obtain ⟨y, mm, y1, y2, m1, m2, _, e⟩ := next_month h1 hz (by omega)
  have hl := long_31 (leapB (y : Int)) m1 m2
  by_cases h : longN (leapB (y : Int)) mm = 31
  · exact ⟨y, mm, y1, y2, m1, m2, h, by omega, by omega⟩
  have e2 := dateN_of (n := (perN 2 z).2 + 1) y1 y2 m1 m2 (Nat.le_refl 1) (by omega) (by rw [e])
  have hpp := perN2 ((perN 2 z).2 + 1)
  have hll : monthN ((perN 2 z).2 + 1) = longN (leapB (y : Int)) mm := by unfold monthN; rw [e2]
  rw [e2, hll] at hpp
  have hp2 : (perN 2 ((perN 2 z).2 + 1)).2 = (perN 2 z).2 + longN (leapB (y : Int)) mm := by rw [hpp]; show (perN 2 z).2 + 1 - 1 + _ = _; omega
  obtain ⟨y', mm', y1', y2', m1', m2', hm', e'⟩ := next_month (n := (perN 2 z).2 + 1) (by omega) (by omega) (by omega)
  rw [e2] at hm'
  simp only at hm'
  refine ⟨y', mm', y1', y2', m1', m2', ?_, by omega, by omega⟩
  have hnx : mm' = mm + 1 ∨ mm' = 1 := by omega
  have d1 : ∀ l l' : Bool, ∀ mm, mm < 13 → 1 ≤ mm → longN l mm ≠ 31 → longN l' (mm + 1) = 31 ∨ 12 < mm + 1 := by decide
  have d2 : ∀ l : Bool, longN l 1 = 31 := by decide
  rcases hnx with rfl | rfl
  · exact (d1 _ _ mm (by omega) m1 h).resolve_right (by omega)
  · exact d2 _
theorem win_md {k s : Nat} (hk : 1 ≤ k) (hk2 : k ≤ 31) : ∀ z, 1 ≤ z → z + 93 ≤ lastN → ∃ x, z ≤ x ∧ x < z + 93 ∧ hasN (rMd k) s x = true := by
  intro z h1 h2
  obtain ⟨y, mm, y1, y2, m1, m2, hl, e1, e2⟩ := win_31 h1 h2
  have e := dateN_of (n := aheadN y + daysM (leapB (y : Int)) (mm - 1) + (32 - k)) y1 y2 m1 m2 (d := 32 - k) (by omega) (by omega) rfl
  refine ⟨aheadN y + daysM (leapB (y : Int)) (mm - 1) + (32 - k), by omega, by omega, (has_md (by omega) (by omega) hk).2 ?_⟩
  have : monthN (aheadN y + daysM (leapB (y : Int)) (mm - 1) + (32 - k)) = longN (leapB (y : Int)) mm := by unfold monthN; rw [e]
  rw [this, e, hl]
  show 31 + 1 = 32 - k + k
  omega
end Go.Proofs.YtjhnpcnamclfbaaGreatDoor

/-! Requests: rows of their parts. -/
namespace Go.Proofs.YtjhnpcnamclfbaaGreatDoor
open Go Go.Eng Go.RowKit
noncomputable section
set_option maxRecDepth 100000

theorem gl_has : hasG gl (stOf gl) = true := by kernel_rfl

/-- The length bound's variable is an int. -/
theorem maxLen_cell {B : Base} {ρ : Rho} {σ : Nat → Value} {s : St} {w : World} (h : R B ρ σ s w) (hs : hasG gl s = true) {m : Int} (hm : σ 900 = .int .i64 m) : w.cell? ⟨gMax, 0, none⟩ = some (.int .i64 m) := by
  have hg := hasG_spec hs ⟨gMax, [.sym 900], 3⟩ (by simp [gl])
  obtain ⟨L, hL, hv⟩ := h.vars gMax (by unfold gMax gN; omega)
  obtain ⟨e1, e2⟩ := hv (by unfold gMax vN; omega)
  obtain ⟨ob, hob, c, t, fr, rfl, _, _, hc, _⟩ := h.here hg hL
  obtain ⟨v, r, e, ⟨hvv, _⟩, hr⟩ := hc
  rw [e1] at hob
  rw [e2, List.drop_zero] at e
  have : c[0]? = some v := by
    rw [← Array.getElem?_toList]
    have : (c.toList.take 1)[0]? = some v := by
      have e' : c.toList.take 1 = v :: r := e
      rw [e']; rfl
    rw [List.getElem?_take] at this
    simpa using this
  rw [cell_at hob, this, hvv, hm]

/-- A list's member. -/
def pick {α : Type} (z : α) (l : List α) : Nat → α := List.rec (motive := fun _ => Nat → α) (fun _ => z) (fun x _ ih i => Nat.rec (motive := fun _ => α) x (fun j _ => ih j) i) l
end
end Go.Proofs.YtjhnpcnamclfbaaGreatDoor

/-! A request's bytes: how they are cut, joined, and written: plain laws, and the rows they give. -/
namespace Go.Proofs.YtjhnpcnamclfbaaGreatDoor
open Go Go.Eng Go.RowKit
noncomputable section
set_option maxRecDepth 100000

/-! ### Plain laws -/
def tailS : List (List UInt8) → List UInt8 → List UInt8
  | [], t => t
  | f :: fs, t => f ++ 32 :: tailS fs t
theorem indexByte_at : ∀ (a b : List UInt8), 32 ∉ a → Lib.indexByte (a ++ 32 :: b) 32 = (a.length : Int)
  | [], _, _ => rfl
  | x :: a, b, h => by
    have hx : x ≠ 32 := fun e => h (by simp [e])
    have ih := indexByte_at a b (fun e => h (by simp [e]))
    have hn : (x == (32 : UInt8)) = false := by rw [beq_eq_false_iff_ne]; exact hx
    rw [List.cons_append]
    unfold Lib.indexByte
    rw [hn, ih]
    simp only [Bool.false_eq_true, if_false]
    rw [if_neg (by rw [beq_iff_eq]; omega)]
    rw [List.length_cons]; omega
theorem cut_at (a b : List UInt8) (h : 32 ∉ a) : Lib.cut (a ++ 32 :: b) [32] = (a, b, true) := by
  unfold Lib.cut
  rw [Lib.index_one, indexByte_at a b h, if_pos (by omega)]
  rw [Int.toNat_natCast, List.take_left, List.length_singleton, List.drop_append, List.drop_of_length_le (by omega), show a.length + 1 - a.length = 1 by omega]; rfl
theorem tailS_len : ∀ (fs : List (List UInt8)) (t : List UInt8) (n : Nat), (∀ f ∈ fs, f.length ≤ n) → (tailS fs t).length ≤ fs.length * (n + 1) + t.length
  | [], _, _, _ => by simp [tailS]
  | f :: fs, t, n, h => by
    have ih := tailS_len fs t n (fun g hg => h g (by simp [hg]))
    have h1 := h f (by simp)
    show (f ++ 32 :: tailS fs t).length ≤ _
    rw [List.length_append, List.length_cons, List.length_cons, Nat.add_mul]; omega

/-! ### Contracts under all the variables -/
abbrev CG (f : FuncId) (va : Array Value) (u : Value) : Prop := CallsV Tryz.prog gl f va u tabV
theorem CW.g {f : FuncId} {va : Array Value} {u : Value} (h : CW f va u) : CG f va u := fun w hw => h w (varsC hw)
theorem c_cut {a b : List UInt8} (h : 32 ∉ a) (hl : (a ++ 32 :: b).length < 4294967281) : CG fCut #[strV (a ++ 32 :: b), strV [32]] (.tuple #[strV a, strV b, .bool true]) := by
  intro w ⟨m, hm⟩ _
  obtain ⟨ρ, hR⟩ := hm (fun _ => .int .i64 m) rfl
  refine (Tryz.strings_Cut ⟨(a ++ 32 :: b).toArray⟩ ⟨#[32]⟩ m w (by show (a ++ 32 :: b).toArray.size < _; rw [List.size_toArray]; exact hl) (maxLen_cell hR gl_has rfl)).mono ?_
  rintro e w' ⟨rfl, k, rfl⟩
  refine ⟨?_, Go.Joins.below_draws _ _ _⟩
  show Ending.returned (.tuple #[.string ⟨(Lib.cut (a ++ 32 :: b) [32]).1.toArray⟩, .string ⟨(Lib.cut (a ++ 32 :: b) [32]).2.1.toArray⟩, .bool (Lib.cut (a ++ 32 :: b) [32]).2.2]) = _
  rw [cut_at a b h]; rfl

/-! ### Rows -/
/-- What a field's value stands for. -/
def Fld (σ : Nat → Value) (a : AV) (f : List UInt8) : Prop := conc σ a = .str (nats f) ∧ plainA a = true ∧ tells a = true ∧ 32 ∉ f ∧ VR (fun _ => none) σ a (strV f)
def Flds (σ : Nat → Value) : List AV → List (List UInt8) → Prop
  | [], [] => True
  | a :: l, f :: fs => Fld σ a f ∧ Flds σ l fs
  | _, _ => False
theorem Fld.str {σ : Nat → Value} {f : List UInt8} (h : 32 ∉ f) : Fld σ (.str (nats f)) f := ⟨rfl, rfl, rfl, h, ⟨_, rfl, rfl⟩⟩
theorem Fld.sym {σ : Nat → Value} {i : Nat} {f : List UInt8} (h : 32 ∉ f) (e : σ i = strV f) : Fld σ (.sym i) f := ⟨by show concS i (σ i) = _; rw [e]; rfl, rfl, rfl, h, ⟨e.symm, rfl⟩⟩

end
end Go.Proofs.YtjhnpcnamclfbaaGreatDoor

/-! Requests: their parts' rows are so, whatever else the symbols stand for. -/
namespace Go.Proofs.YtjhnpcnamclfbaaGreatDoor
open Go Go.Eng Go.RowKit
noncomputable section
set_option maxRecDepth 100000

def words8 : List (List UInt8) := [[112, 97, 114, 115, 101], [100, 101, 115, 99, 114, 105, 98, 101], [112, 114, 101, 118, 105, 101, 119], [99, 104, 101, 99, 107]]
def locales8 : List (List UInt8) := [[101, 110], [100, 101], [102, 114], [112, 108], [120, 120], [255]]
def wd (k : Nat) : List UInt8 := pick [] words8 k
def lo (l : Nat) : List UInt8 := pick [] locales8 l
theorem wd_ok {k : Nat} (h : k < 4) : 32 ∉ wd k ∧ (wd k).length ≤ 10 := by
  have : ∀ k, k < 4 → 32 ∉ wd k ∧ (wd k).length ≤ 10 := by decide
  exact this k h
theorem lo_ok {l : Nat} (h : l < 6) : 32 ∉ lo l ∧ (lo l).length ≤ 10 := by
  have : ∀ l, l < 6 → 32 ∉ lo l ∧ (lo l).length ≤ 10 := by decide
  exact this l h
theorem dayT_ok {n y mm d : Nat} (hd : Dated n y mm d) : 32 ∉ dayT y mm d ∧ (dayT y mm d).length ≤ 10 := by
  refine ⟨fun hm => ?_, Nat.le_of_eq hd.l10⟩
  unfold dayT at hm
  simp only [List.mem_append, List.mem_singleton] at hm
  have hp : ∀ {u size : Nat}, 32 ∈ pad u size → False := fun hq => by have := (pad_all _ _ 32 hq).1; revert this; decide
  rcases hm with (((hm | hm) | hm) | hm) | hm
  · exact hp hm
  · revert hm; decide
  · exact hp hm
  · revert hm; decide
  · exact hp hm
theorem dec_ok {u : Nat} (h : u < 4294967296) : 32 ∉ Lib.decDigits u ∧ (Lib.decDigits u).length ≤ 10 := by
  refine ⟨fun hm => ?_, ?_⟩
  · have := (digits_all _ 32 hm).1; revert this; decide
  · rw [Lib.decDigits_length]
    exact nDigits_le 9 _ (by omega)
theorem tmodN (a b : Nat) : ((a : Int)).tmod (b : Int) = ((a % b : Nat) : Int) := (Int.ofNat_tmod a b).symm
theorem Flds.vals {σ : Nat → Value} {a : AV} {t : List UInt8} (ha : VR (fun _ => none) σ a (strV t)) : ∀ {l : List AV} {fs : List (List UInt8)}, Flds σ l fs → VRs (fun _ => none) σ (l ++ [a]) ((fs ++ [t]).map strV)
  | [], [], _ => ⟨_, _, rfl, ha, rfl⟩
  | [], _ :: _, h => h.elim
  | _ :: _, [], h => h.elim
  | _ :: _, _ :: _, ⟨h, hl⟩ => ⟨_, _, rfl, h.2.2.2.2, Flds.vals ha hl⟩
/-- What a request's days stand for. -/
structure DaysOK (σ : Nat → Value) (s : Nat → Nat) (D : Nat → List UInt8) : Prop where
  e2 : ∀ j, j < 3 → σ (2 + j) = .int .u32 (s j)
  e10 : ∀ j, j < 3 → σ (10 + 3 * j) = .int .u32 (s j % 3652059 : Nat)
  e11 : ∀ j, j < 3 → σ (11 + 3 * j) = .int .i64 (s j % 3652059 : Nat)
  e12 : ∀ j, j < 3 → σ (12 + 3 * j) = .int .i64 (1 + s j % 3652059 : Nat)
  e21 : ∀ j, j < 3 → σ (21 + j) = strV (D j)
  dt : ∀ j, j < 3 → ∃ y mm d, Dated (1 + s j % 3652059) y mm d ∧ D j = dayT y mm d
/-- What its numbers stand for. -/
structure NumsOK (σ : Nat → Value) (b : Nat → Nat) : Prop where
  e5 : ∀ j, j < 2 → σ (5 + j) = .int .u32 (b j)
  e19 : ∀ j, j < 2 → σ (19 + j) = .int .i64 (b j)
  e24 : ∀ j, j < 2 → σ (24 + j) = strV (Lib.decDigits (b j))
  bt : ∀ j, j < 2 → b j < 4294967296

end
end Go.Proofs.YtjhnpcnamclfbaaGreatDoor

/-! Contracts by closed runs that look at memory; rows with structs. -/
namespace Go.Proofs.YtjhnpcnamclfbaaGreatDoor
open Go Go.Eng Go.RowKit
abbrev tStr : Nat := 9
noncomputable section
set_option maxRecDepth 100000

theorem tellsVs_funs {ρ ρ' : Rho} {σ : Nat → Value} : ∀ {l : List AV}, l.all tellsV = true → ∀ {u v : List Value}, VRs ρ σ l u → VRs ρ' σ l v → u = v
  | [], _, _, _, h1, h2 => h1.trans h2.symm
  | a :: l, ha, _, _, ⟨x, r, e, h1, hl⟩, ⟨y, q, e', h2, hq⟩ => by
    simp only [List.all_cons, Bool.and_eq_true] at ha
    rw [e, e', tellsV_fun ha.1 h1 h2, tellsVs_funs ha.2 hl hq]

/-- A contract is a row, structs among its arguments. -/
theorem KRow.ofC {V : World → Prop} {σ : Nat → Value} {m : Int} (hm : σ kM = .int .i64 m) {f : FuncId} {args : List AV} {a : AV} {va : Array Value} {u : Value} (ht : args.all tellsV = true) (hg : args.all plainG = true) (ha : VRs (fun _ => none) σ args va.toList) (hp : plainA a = true ∨ (∃ l, a = .tuple l ∧ l.all plainA = true))
    (hu : VR (fun _ => none) σ a u) (h : CallsV Tryz.prog gl f va u V) : KRow Tryz.prog gl σ f args ⟨a, []⟩ V :=
  KRow.ofPG glOK hg hp (PRow.ofV glOK gl_bareM gl_has hm fun w va' hva hw hV => by
    have e : va' = va := Array.ext' (tellsVs_funs ht hva ha)
    subst e
    exact (h w hw hV).mono fun e w' ⟨h1, h2⟩ => ⟨u, h1, hu, h2⟩)

/-- A closed run that looks at memory is a contract. -/
theorem CallsV.scriptM {E : Env} (ok : EnvOK E) (hP : E.P = Tryz.prog) {σ : Nat → Value} {f : FuncId} {args : List AV} {n : Nat} {v : AV} {va : Array Value} {u : Value} {orows mrows : List OR} {krows : List KR}
    (ho : ∀ m, ∀ r ∈ orows, RowOK (E.askM 9 orows mrows (memoKH gl krows)) 9 (withM σ m) r) (hmr : ∀ m, ∀ r ∈ mrows, RowM (E.askM 9 orows mrows (memoKH gl krows)) (withM σ m) r) (hk : ∀ m, ∀ r ∈ krows, KRow Tryz.prog gl (withM σ m) r.f r.args r.img E.V)
    (run : rowRunG (E.askM 9 orows mrows (memoKH gl krows)) gl f args n v = true) (ha : ∀ m, VRs (fun _ => none) (withM σ m) args va.toList) (hu : ∀ m, VR (fun _ => none) (withM σ m) v u) (ht : tellsV v = true)
    (hV : ∀ w, E.V w → Hold E.V (fun k => k < w.heap.size) w) : CallsV Tryz.prog gl f va u E.V := by
  intro w ⟨m, hm⟩ hw
  obtain ⟨ρ, hR⟩ := hm (withM σ m) (withM_kM σ m)
  have mo : MemoOK (E.askM 9 orows mrows (memoKH gl krows)) (withM σ m) := by
    have h := MemoOK.ofK (E := E.askM 9 orows mrows (memoKH gl krows)) (gl := gl) (rows := krows) (σ := withM σ m) (by rw [show (E.askM 9 orows mrows (memoKH gl krows)).P = Tryz.prog from hP]; exact hk m)
    rw [← memoKH_eq] at h
    exact h
  have row := PRow.ofGr (E := E.askM 9 orows mrows (memoKH gl krows)) (EnvS.askM ok (ho m) (hmr m)) mo run
  rw [show (E.askM 9 orows mrows (memoKH gl krows)).P = Tryz.prog from hP] at row
  exact (row w va (hV w hw) ⟨ρ, hR⟩ (ha m)).mono fun e w' ⟨u', h1, h2, h3⟩ => ⟨by rw [h1, tellsV_fun ht h2 (hu m)], h3⟩

theorem memoKH_ok {E : Env} (hP : E.P = Tryz.prog) {σ : Nat → Value} {krows : List KR} (hk : ∀ r ∈ krows, KRow Tryz.prog gl σ r.f r.args r.img E.V) : MemoOK { E with memo := memoKH gl krows } σ := by
  have h := MemoOK.ofK (E := E) (gl := gl) (rows := krows) (σ := σ) (by rw [hP]; exact hk)
  rw [← memoKH_eq] at h
  exact h

section
variable {E E' : Env} {b : Nat → Prop} {ρ0 : Rho} {σ : Nat → Value} {cs : List Frame} {m : AM} {M : Machine} {w : World}
/-- Where no region is under way the environment may be another one. -/
theorem Live.env (h : Live E b ρ0 σ cs m M w) (hc : m.callers = []) (hn : noD m.fr.todo = true) : Live E' b ρ0 σ cs m M w := by
  obtain ⟨ρ, f, cs', pd, q, rfl, ⟨hf, hcs, hr⟩, hl⟩ := h
  obtain ⟨⟨tm, todo, inf⟩, callers, s⟩ := m
  have hc : callers = [] := hc
  subst hc
  have hn : noD todo = true := hn
  have hpd := hf.tt.noP hn
  obtain ⟨hi, tr⟩ := hf.tt.noD hn
  exact ⟨ρ, f, cs', pd, q, rfl, ⟨⟨hf.fn, hf.kind, hf.ro, hf.defers, hf.mode, .plain hpd hi tr⟩, hcs, hr⟩, hl⟩
end
/-- What lay there stays. -/
theorem Below.kept {n : Nat} {b : Nat → Prop} {w w1 w2 : World} (h : Below n w w1) (k : Kept b w1 w2) (hb : ∀ j, j < n → b j) : Below n w w2 :=
  ⟨k.os.trans h.os, k.tape.trans h.tape, k.output.trans h.output, Nat.le_trans h.size k.size, fun j hj => (k.block j (hb j hj)).trans (h.block j hj)⟩
/-- Where a call begins. -/
def startM (E : Env) (s : St) (f : FuncId) (args : List AV) : Option AM := match enterA E f args .normal with
  | some fr => some ⟨fr, [], s⟩
  | none => none
def bnd {α β : Type} (o : Option α) (f : α → Option β) : Option β := match o with
  | some a => f a
  | none => none
theorem bnd_some {α β : Type} {o : Option α} {f : α → Option β} {y : β} (h : bnd o f = some y) : ∃ x, o = some x ∧ f x = some y := by
  cases o with
  | none => cases h
  | some x => exact ⟨x, rfl, h⟩
theorem startM_some {E : Env} {s : St} {f : FuncId} {args : List AV} {m : AM} (h : startM E s f args = some m) : ∃ fr, enterA E f args .normal = some fr ∧ m = ⟨fr, [], s⟩ := by
  unfold startM at h
  split at h
  · rename_i fr hfr; cases h; exact ⟨fr, hfr, rfl⟩
  · cases h
end
end Go.Proofs.YtjhnpcnamclfbaaGreatDoor

/-! Contracts at any input: Long, Of, Atoi, Parse. -/
namespace Go.Proofs.YtjhnpcnamclfbaaGreatDoor
open Go Go.Eng Go.RowKit
noncomputable section
set_option maxRecDepth 100000

/-! ### The errors' variables -/
def ifaceAt (g : Nat) (w : World) : Prop := ∃ ev, w.cell? ⟨g, 0, none⟩ = some ev ∧ (ev = .nilIface ∨ ∃ te pe, ev = .iface te pe)
def errV (w : World) : Prop := tabV w ∧ ifaceAt 6 w ∧ ifaceAt 7 w
theorem cell_kept {g : Nat} {b : Nat → Prop} {w w' : World} (hK : Kept b w w') (hb : b g) : w'.cell? ⟨g, 0, none⟩ = w.cell? ⟨g, 0, none⟩ := by
  unfold World.cell?
  rw [hK.block g hb]
theorem errV_hold (w : World) (h : errV w) : Hold errV (fun k => k < w.heap.size) w := by
  have ht := tabV_hold w h.1
  obtain ⟨_, h2, h3⟩ := h
  refine ⟨⟨ht.now, h2, h3⟩, fun w1 w2 ⟨q1, q2, q3⟩ hK => ⟨ht.keep _ _ q1 hK, ?_, ?_⟩⟩
  · obtain ⟨ev, e1, e2⟩ := h2
    obtain ⟨ev', e1', e2'⟩ := q2
    exact ⟨ev', by rw [cell_kept hK (Lib.lt_of_cell e1)]; exact e1', e2'⟩
  · obtain ⟨ev, e1, e2⟩ := h3
    obtain ⟨ev', e1', e2'⟩ := q3
    exact ⟨ev', by rw [cell_kept hK (Lib.lt_of_cell e1)]; exact e1', e2'⟩
def Ee : Env := { E0 with V := errV }
theorem envEe : EnvOK Ee := ⟨envOK.ty, envOK.fns, envOK.mixed⟩
/-- A contract where the errors' variables stand. -/
abbrev CE (f : FuncId) (va : Array Value) (u : Value) : Prop := CallsV Tryz.prog gl f va u errV
theorem CG.e {f : FuncId} {va : Array Value} {u : Value} (h : CG f va u) : CE f va u := CallsV.more h fun _ h => h.1

/-- A row that hands back a number and an error that is there. -/
theorem KRow.err {V : World → Prop} {σ : Nat → Value} {f : FuncId} {args : List AV} {a : AV} {t : TypeId} (ha : args.all plainG = true) (hp : plainA a = true) (h : PRow Tryz.prog gl σ f args (.tuple [a, .iface t .any]) V) : KRow Tryz.prog gl σ f args ⟨.tuple [a, .iface t .any], []⟩ V := by
  intro B ρ s w va hv0 hR hs hva v s' hpl cs
  have hpl : v = .tuple [a, .iface t .any] ∧ s' = s := by
    obtain ⟨N, tt⟩ := s
    unfold place at hpl
    simp only [putB] at hpl
    cases hpl
    refine ⟨?_, rfl⟩
    have pl : ∀ (f : Nat → Nat), ren f a = a := fun f => by cases a <;> first | rfl | cases hp
    unfold ren rens rens rens
    rw [pl]; rfl
  obtain ⟨rfl, rfl⟩ := hpl
  obtain ⟨e, w', fr, ⟨u, rfl, hu, hB⟩, h2⟩ := h w va (hv0.wide hR.size) ⟨_, hR.start glOK hs⟩ (plainGs_any ha hva) cs
  refine ⟨_, w', fr, ⟨u, ρ, rfl, Ext.refl _, ?_, hR.frame hB, ⟨hB.os, hB.tape, hB.output, hB.size, fun k hk => hB.block k (hR.size k hk)⟩⟩, h2⟩
  obtain ⟨vs, rfl, x, r, e1, hx, y, r', rfl, ⟨z, rfl, hz⟩, rfl⟩ := hu
  exact ⟨_, rfl, x, _, e1, plainA_any hp hx, _, _, rfl, ⟨z, rfl, hz⟩, rfl⟩

/-! ### Atoi at any string -/
/-- What Atoi comes to: a number; is it one? -/
def atoiN (l : List UInt8) : Int := match Lib.atoiAll l with
  | .ok n => n
  | .range => Lib.atoiSat l
  | _ => 0
def atoiB (l : List UInt8) : Bool := match Lib.atoiAll l with
  | .ok _ => true
  | _ => false
theorem atoiN_bounds (l : List UInt8) : -9223372036854775808 ≤ atoiN l ∧ atoiN l ≤ 9223372036854775807 := by
  unfold atoiN
  split
  · exact Lib.atoiAll_bounds (by assumption)
  · exact Lib.atoiSat_bounds l
  · omega
def errA (ok : Bool) : AV := match ok with
  | true => .nilIface
  | false => .iface 218 .any
theorem c_atoi_err (l : List UInt8) (hl : l.length ≤ 1000000) (h : atoiB l = false) (w : World) (hw : errV w) :
    Calls Tryz.prog fAtoi #[strV l] w (fun e w' => ∃ N, e = .returned (.tuple #[.int .i64 (atoiN l), .iface 218 (.pointer (some ⟨N, 0, none⟩))]) ∧ Below w.heap.size w w') := by
  obtain ⟨_, ⟨e2, h2, k2⟩, ⟨e3, h3, k3⟩⟩ := hw
  have hsz : (⟨l.toArray⟩ : ByteArray).size ≤ 281474976710656 := by show l.toArray.size ≤ _; rw [List.size_toArray]; omega
  unfold atoiB at h
  unfold atoiN
  cases e : Lib.atoiAll l
  · rw [e] at h; cases h
  all_goals first
    | exact (Any.strconv_Atoi_syntax Tryz.laysC172 ⟨l.toArray⟩ hsz e e2 w h2 k2).mono fun _ _ ⟨N, q1, _, _, q4⟩ => ⟨N, q1, q4⟩
    | exact (Any.strconv_Atoi_syntax Tryz.laysC172 ⟨l.toArray⟩ hsz e e3 w h3 k3).mono fun _ _ ⟨N, q1, _, _, q4⟩ => ⟨N, q1, q4⟩
    | exact (Any.strconv_Atoi_range Tryz.laysC172 ⟨l.toArray⟩ hsz e e2 w h2 k2).mono fun _ _ ⟨N, q1, _, _, q4⟩ => ⟨N, q1, q4⟩
    | exact (Any.strconv_Atoi_range Tryz.laysC172 ⟨l.toArray⟩ hsz e e3 w h3 k3).mono fun _ _ ⟨N, q1, _, _, q4⟩ => ⟨N, q1, q4⟩
theorem c_atoiL (l : List UInt8) (n : Int) (hl : l.length ≤ 1000000) (h : Lib.atoiAll l = .ok n) : CE fAtoi #[strV l] (.tuple #[.int .i64 n, .nilIface]) := by
  intro w _ _
  refine (Tryz.strconv_Atoi_ok ⟨l.toArray⟩ (by show l.toArray.size ≤ _; rw [List.size_toArray]; omega) n h w).mono ?_
  rintro e w' ⟨rfl, rfl | ⟨t, rfl⟩⟩
  · exact ⟨rfl, Below.refl _ _⟩
  · exact ⟨rfl, Lib.bytesWorld_below _ _ _⟩
/-- Atoi at any string, as a row. -/
theorem kr_atoi {σ : Nat → Value} {m : Int} (hm : σ kM = .int .i64 m) {a b : AV} {l : List UInt8} (ha : tellsV a = true) (hg : plainG a = true) (hl : l.length ≤ 1000000) (h1 : VR (fun _ => none) σ a (strV l)) (hp : plainA b = true) (h2 : VR (fun _ => none) σ b (.int .i64 (atoiN l))) :
    KRow Tryz.prog gl σ fAtoi [a] ⟨.tuple [b, errA (atoiB l)], []⟩ errV := by
  have hgs : [a].all plainG = true := by rw [List.all_cons, hg]; rfl
  have hts : [a].all tellsV = true := by rw [List.all_cons, ha]; rfl
  cases hB : atoiB l with
  | true =>
    have e : Lib.atoiAll l = .ok (atoiN l) := by
      unfold atoiB at hB
      unfold atoiN
      split at hB
      · rename_i n e; rw [e]
      · cases hB
    exact KRow.ofC hm hts hgs (va := #[strV l]) ⟨_, _, rfl, h1, rfl⟩ (.inr ⟨_, rfl, by rw [List.all_cons, hp]; rfl⟩) (u := .tuple #[.int .i64 (atoiN l), .nilIface]) ⟨_, rfl, _, _, rfl, h2, _, _, rfl, rfl, rfl⟩ (c_atoiL l _ hl e)
  | false =>
    refine KRow.err hgs hp (PRow.ofV glOK gl_bareM gl_has hm fun w va hva _ hV => ?_)
    have e : va = #[strV l] := Array.ext' (tellsVs_funs hts hva ⟨_, _, rfl, h1, rfl⟩)
    subst e
    refine (c_atoi_err l (by omega) hB w hV).mono fun e w' ⟨N, q1, q2⟩ => ⟨_, q1, ⟨_, rfl, _, _, rfl, h2, _, _, rfl, ⟨_, rfl, rfl⟩, rfl⟩, q2⟩

/-! ### Long and Of at any numbers -/
def noM (σ : Nat → Value) (a b c : Value) (i : Nat) : Value := match i with
  | 0 => a
  | 1 => b
  | 2 => c
  | j + 3 => σ j
def orLn (a b : Bool) : List OR := [⟨13, [.sym 1, .int .i64 1], .bool a⟩, ⟨15, [.sym 1, .int .i64 12], .bool b⟩]
def ELn (a b : Bool) : Env := Ee.askM 9 (orLn a b) [] (memoKH gl [])
theorem runLn : ∀ a b : Bool, (a || b) = true → rowRunG (ELn a b) gl fLong [.sym 0, .sym 1] 200 (.int .i64 0) = true := by
  intro a b h
  cases a <;> cases b <;> first | (cases h; done) | kernel_rfl
theorem c_long_none (y m : Int) (h : m < 1 ∨ 12 < m) : CE fLong #[.int .i64 y, .int .i64 m] (.int .i64 0) := by
  refine CallsV.scriptM (E := Ee) envEe rfl (σ := noM (fun _ => .nilIface) (.int .i64 y) (.int .i64 m) .nilIface) (orows := orLn (decide (m < 1)) (decide (12 < m))) (mrows := []) (krows := []) (fun mm r hr => ?_) (fun _ r hr => by cases hr) (fun _ r hr => by cases hr)
    (runLn _ _ (by rw [Bool.or_eq_true, decide_eq_true_eq, decide_eq_true_eq]; exact h)) (fun _ => ⟨_, _, rfl, ⟨rfl, rfl⟩, _, _, rfl, ⟨rfl, rfl⟩, rfl⟩) (fun _ => rfl) rfl errV_hold
  simp only [orLn, List.mem_cons, List.mem_nil_iff, or_false] at hr
  rcases hr with rfl | rfl
  · exact RowOK.cmp .i64 (x := m) (y := 1) rfl rfl (.inr (.inr (.inl ⟨rfl, rfl⟩)))
  · exact RowOK.cmp .i64 (x := m) (y := 12) rfl rfl (.inr (.inr (.inr (.inr (.inl ⟨rfl, rfl⟩)))))

def orOn (a b c e : Bool) : List OR := [⟨13, [.sym 0, .int .i64 1], .bool a⟩, ⟨15, [.sym 0, .int .i64 9999], .bool b⟩, ⟨13, [.sym 2, .int .i64 1], .bool c⟩, ⟨15, [.sym 2, .sym 3], .bool e⟩]
def krOn : List KR := [⟨fLong, [.sym 0, .sym 1], ⟨.sym 3, []⟩⟩]
def EOn (a b c e : Bool) : Env := Ee.askM 9 (orOn a b c e) [] (memoKH gl krOn)
theorem runOn : ∀ a b c e : Bool, (a || b || c || e) = true → rowRunG (EOn a b c e) gl fOf [.sym 0, .sym 1, .sym 2] 300 (.tuple [.int .i64 0, .bool false]) = true := by
  intro a b c e h
  cases a <;> cases b <;> cases c <;> cases e <;> first | (cases h; done) | kernel_rfl
/-- How many days: none where there is no such month. -/
def longI (y m : Int) : Int := if m < 1 ∨ 12 < m then 0 else longN (leapB y) m.toNat
theorem c_longI (y m : Int) : CE fLong #[.int .i64 y, .int .i64 m] (.int .i64 (longI y m)) := by
  unfold longI
  split
  · exact c_long_none y m (by assumption)
  · have h := (c_long y (m := m.toNat) (by omega) (by omega)).w.g
    rw [show ((m.toNat : Nat) : Int) = m by omega] at h
    exact CG.e h
theorem c_of_none (y m d : Int) (h : y < 1 ∨ 9999 < y ∨ d < 1 ∨ longI y m < d) : CE fOf #[.int .i64 y, .int .i64 m, .int .i64 d] (.tuple #[.int .i64 0, .bool false]) := by
  refine CallsV.scriptM (E := Ee) envEe rfl (σ := noM (fun _ => .int .i64 (longI y m)) (.int .i64 y) (.int .i64 m) (.int .i64 d)) (orows := orOn (decide (y < 1)) (decide (9999 < y)) (decide (d < 1)) (decide (longI y m < d))) (mrows := []) (krows := krOn) (fun mm r hr => ?_) (fun _ r hr => by cases hr) (fun mm r hr => ?_)
    (runOn _ _ _ _ (by simp only [Bool.or_eq_true, decide_eq_true_eq]; omega)) (fun _ => ⟨_, _, rfl, ⟨rfl, rfl⟩, _, _, rfl, ⟨rfl, rfl⟩, _, _, rfl, ⟨rfl, rfl⟩, rfl⟩) (fun _ => ⟨_, rfl, _, _, rfl, rfl, _, _, rfl, rfl, rfl⟩) rfl errV_hold
  · simp only [orOn, List.mem_cons, List.mem_nil_iff, or_false] at hr
    rcases hr with rfl | rfl | rfl | rfl
    · exact RowOK.cmp .i64 (x := y) (y := 1) rfl rfl (.inr (.inr (.inl ⟨rfl, rfl⟩)))
    · exact RowOK.cmp .i64 (x := y) (y := 9999) rfl rfl (.inr (.inr (.inr (.inr (.inl ⟨rfl, rfl⟩)))))
    · exact RowOK.cmp .i64 (x := d) (y := 1) rfl rfl (.inr (.inr (.inl ⟨rfl, rfl⟩)))
    · exact RowOK.cmp .i64 (x := d) (y := longI y m) rfl rfl (.inr (.inr (.inr (.inr (.inl ⟨rfl, rfl⟩)))))
  · simp only [krOn, List.mem_cons, List.mem_nil_iff, or_false] at hr
    subst hr
    exact KRow.ofC (withM_kM _ _) rfl rfl (va := #[.int .i64 y, .int .i64 m]) ⟨_, _, rfl, ⟨rfl, rfl⟩, _, _, rfl, ⟨rfl, rfl⟩, rfl⟩ (.inl rfl) (u := .int .i64 (longI y m)) ⟨rfl, rfl⟩ (c_longI y m)
end
end Go.Proofs.YtjhnpcnamclfbaaGreatDoor

/-! The contract of Parse at any string. -/
namespace Go.Proofs.YtjhnpcnamclfbaaGreatDoor
open Go Go.Eng Go.RowKit
noncomputable section
set_option maxRecDepth 100000

section
variable {l : List UInt8} {n : Int} {T : List UInt8} {c4 c7 : Nat} {m : Int} {E : Env} (ht : E.ty = E0.ty)
include ht
end

end
end Go.Proofs.YtjhnpcnamclfbaaGreatDoor
