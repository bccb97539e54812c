/- Grammars: what may be nothing, what comes to itself alone: plain words. No condition. -/
import Derived.Test.YtddeekefomhbmaaGreatDoorProg
namespace Go.Proofs.YtddeekefomhbmaaGreatDoor
open Classical

/-- How many of the first N are so. -/
noncomputable def cntP (p : Nat → Prop) : Nat → Nat
  | 0 => 0
  | n + 1 => cntP p n + if p n then 1 else 0
theorem cntP_le (p : Nat → Prop) : ∀ N, cntP p N ≤ N
  | 0 => Nat.le_refl _
  | n + 1 => by
    have := cntP_le p n
    show cntP p n + (if p n then 1 else 0) ≤ _
    split <;> omega
theorem cntP_mono {p q : Nat → Prop} (h : ∀ n, p n → q n) : ∀ N, cntP p N ≤ cntP q N
  | 0 => Nat.le_refl _
  | n + 1 => by
    have := cntP_mono h n
    show cntP p n + (if p n then 1 else 0) ≤ cntP q n + (if q n then 1 else 0)
    by_cases hp : p n
    · rw [if_pos hp, if_pos (h n hp)]; omega
    · rw [if_neg hp]; split <;> omega
theorem cntP_lt {p q : Nat → Prop} (h : ∀ n, p n → q n) {m : Nat} (hq : q m) (hp : ¬ p m) : ∀ N, m < N → cntP p N < cntP q N
  | 0, hm => by omega
  | n + 1, hm => by
    show cntP p n + (if p n then 1 else 0) < cntP q n + (if q n then 1 else 0)
    rcases Nat.lt_or_ge m n with h1 | h1
    · have := cntP_lt h hq hp n h1
      by_cases h2 : p n
      · rw [if_pos h2, if_pos (h n h2)]; omega
      · rw [if_neg h2]; split <;> omega
    · obtain rfl : m = n := by omega
      have := cntP_mono h m
      rw [if_neg hp, if_pos hq]; omega
theorem cntP_all {p : Nat → Prop} : ∀ N, N ≤ cntP p N → ∀ n, n < N → p n
  | 0, _, n, hn => by omega
  | N + 1, h, n, hn => by
    have hle := cntP_le p N
    have h : N + 1 ≤ cntP p N + (if p N then 1 else 0) := h
    by_cases hp : p N
    · rcases Nat.lt_or_ge n N with h1 | h1
      · rw [if_pos hp] at h; exact cntP_all N (by omega) n h1
      · obtain rfl : n = N := by omega
        exact hp
    · rw [if_neg hp] at h; omega
/-- A rising chain of sets of numbers below N, each fixed by the one ahead, stands still from N on. -/
theorem chain_stable {N : Nat} {S : Nat → Nat → Prop} (mono : ∀ d n, S d n → S (d + 1) n) (bound : ∀ d n, S d n → n < N) (next : ∀ d, (∀ n, S (d + 1) n → S d n) → ∀ n, S (d + 2) n → S (d + 1) n) : ∀ d n, S d n → S N n := by
  have still : ∀ d, (∀ n, S (d + 1) n → S d n) → ∀ j n, S (d + j) n → S d n := by
    intro d hd j
    have hs : ∀ j, ∀ n, S (d + j + 1) n → S (d + j) n := by
      intro j
      induction j with
      | zero => exact hd
      | succ j ih => exact next (d + j) ih
    induction j with
    | zero => exact fun n h => h
    | succ j ih => exact fun n h => ih n (hs j n h)
  have up : ∀ d j n, S d n → S (d + j) n := by
    intro d j
    induction j with
    | zero => exact fun n h => h
    | succ j ih => exact fun n h => mono _ _ (ih n h)
  have key : ∀ d, (∃ e, e < d ∧ ∀ n, S (e + 1) n → S e n) ∨ d ≤ cntP (S d) N := by
    intro d
    induction d with
    | zero => exact .inr (Nat.zero_le _)
    | succ d ih =>
      rcases ih with ⟨e, he, h⟩ | h
      · exact .inl ⟨e, by omega, h⟩
      · by_cases hd : ∀ n, S (d + 1) n → S d n
        · exact .inl ⟨d, by omega, hd⟩
        · right
          obtain ⟨m, hm⟩ := Classical.not_forall.1 hd
          have h1 : S (d + 1) m := Classical.byContradiction fun h => hm fun h' => (h h').elim
          have h2 : ¬ S d m := fun h => hm fun _ => h
          have := cntP_lt (mono d) h1 h2 N (bound _ _ h1)
          omega
  intro d n h
  rcases key N with ⟨e, he, hs⟩ | hN
  · have h1 : S e n := by
      rcases Nat.le_total e d with h2 | h2
      · obtain ⟨j, rfl⟩ := Nat.exists_eq_add_of_le h2
        exact still e hs j n h
      · obtain ⟨j, rfl⟩ := Nat.exists_eq_add_of_le h2
        exact up d j n h
    obtain ⟨j, rfl⟩ := Nat.exists_eq_add_of_le (Nat.le_of_lt he)
    exact up e j n h1
  · exact cntP_all N hN n (bound d n h)

/-! ### What may be nothing -/
/-- A rule: its left side; its symbols: a token, or a left side. -/
abbrev GRule := Nat × List (Option Nat)
def symN (f : Nat → Bool) : Option Nat → Bool
  | none => false
  | some k => f k
/-- By rules used in one another so often at most. -/
def nul (R : List GRule) : Nat → Nat → Bool
  | 0, _ => false
  | d + 1, n => R.any fun r => Nat.beq r.1 n && r.2.all (symN (nul R d))
def Nul (R : List GRule) (n : Nat) : Prop := ∃ d, nul R d n = true
theorem nul_eq (R : List GRule) (d n : Nat) : nul R (d + 1) n = R.any fun r => Nat.beq r.1 n && r.2.all (symN (nul R d)) := rfl
theorem nul_succ {R : List GRule} {d n : Nat} : nul R (d + 1) n = true ↔ ∃ r ∈ R, r.1 = n ∧ ∀ s ∈ r.2, ∃ k, s = some k ∧ nul R d k = true := by
  rw [nul_eq, List.any_eq_true]
  constructor
  · rintro ⟨r, hr, h⟩
    rw [Bool.and_eq_true, List.all_eq_true] at h
    refine ⟨r, hr, Nat.eq_of_beq_eq_true h.1, fun s hs => ?_⟩
    have := h.2 s hs
    cases s with
    | none => cases this
    | some k => exact ⟨k, rfl, this⟩
  · rintro ⟨r, hr, rfl, h⟩
    refine ⟨r, hr, ?_⟩
    rw [Bool.and_eq_true, List.all_eq_true]
    refine ⟨Nat.beq_refl _, fun s hs => ?_⟩
    obtain ⟨k, rfl, hk⟩ := h s hs
    exact hk
theorem nul_mono {R R' : List GRule} (hR : ∀ r ∈ R, r ∈ R') : ∀ {d n : Nat}, nul R d n = true → nul R' d n = true
  | 0, _, h => by cases h
  | d + 1, n, h => by
    obtain ⟨r, hr, e, hs⟩ := nul_succ.1 h
    exact nul_succ.2 ⟨r, hR r hr, e, fun s hs' => by
      obtain ⟨k, e, hk⟩ := hs s hs'
      exact ⟨k, e, nul_mono hR hk⟩⟩
theorem nul_up {R : List GRule} : ∀ {d n : Nat}, nul R d n = true → nul R (d + 1) n = true
  | 0, _, h => by cases h
  | d + 1, n, h => by
    obtain ⟨r, hr, e, hs⟩ := nul_succ.1 h
    exact nul_succ.2 ⟨r, hr, e, fun s hs' => by
      obtain ⟨k, e, hk⟩ := hs s hs'
      exact ⟨k, e, nul_up hk⟩⟩
theorem nul_le {R : List GRule} {d e n : Nat} (h : nul R d n = true) (hd : d ≤ e) : nul R e n = true := by
  obtain ⟨j, rfl⟩ := Nat.exists_eq_add_of_le hd
  induction j with
  | zero => exact h
  | succ j ih => exact nul_up (ih (by omega))
theorem Nul.mono {R R' : List GRule} (hR : ∀ r ∈ R, r ∈ R') {n : Nat} (h : Nul R n) : Nul R' n := by
  obtain ⟨d, h⟩ := h
  exact ⟨d, nul_mono hR h⟩
theorem Nul.left {R : List GRule} {n : Nat} (h : Nul R n) : ∃ r ∈ R, r.1 = n := by
  obtain ⟨d, h⟩ := h
  cases d with
  | zero => cases h
  | succ d =>
    obtain ⟨r, hr, e, _⟩ := nul_succ.1 h
    exact ⟨r, hr, e⟩
theorem Nul.rule {R : List GRule} {r : GRule} (hr : r ∈ R) (h : ∀ s ∈ r.2, ∃ k, s = some k ∧ Nul R k) : Nul R r.1 := by
  have all : ∀ l : List (Option Nat), (∀ s ∈ l, ∃ k, s = some k ∧ Nul R k) → ∃ d, ∀ s ∈ l, ∃ k, s = some k ∧ nul R d k = true := by
    intro l
    induction l with
    | nil => exact fun _ => ⟨0, fun s hs => by cases hs⟩
    | cons a l ih =>
      intro h
      obtain ⟨d, hd⟩ := ih fun s hs => h s (List.mem_cons_of_mem _ hs)
      obtain ⟨k, rfl, d', hk⟩ := h a List.mem_cons_self
      refine ⟨d + d', fun s hs => ?_⟩
      rcases List.mem_cons.1 hs with rfl | hs
      · exact ⟨k, rfl, nul_le hk (by omega)⟩
      · obtain ⟨k', e, hk'⟩ := hd s hs
        exact ⟨k', e, nul_le hk' (by omega)⟩
  obtain ⟨d, hd⟩ := all r.2 h
  exact ⟨d + 1, nul_succ.2 ⟨r, hr, rfl, hd⟩⟩
theorem Nul.least {R : List GRule} {S : Nat → Prop} (hS : ∀ r ∈ R, (∀ s ∈ r.2, ∃ k, s = some k ∧ S k) → S r.1) {n : Nat} (h : Nul R n) : S n := by
  obtain ⟨d, h⟩ := h
  induction d generalizing n with
  | zero => cases h
  | succ d ih =>
    obtain ⟨r, hr, rfl, hs⟩ := nul_succ.1 h
    exact hS r hr fun s hs' => by
      obtain ⟨k, e, hk⟩ := hs s hs'
      exact ⟨k, e, ih hk⟩
/-- So many steps are enough. -/
theorem Nul.depth {R : List GRule} {N : Nat} (hN : ∀ r ∈ R, r.1 < N) {n : Nat} (h : Nul R n) : nul R N n = true := by
  obtain ⟨d, h⟩ := h
  refine chain_stable (N := N) (S := fun d n => nul R d n = true) (fun d n h => nul_up h) (fun d n h => ?_) (fun d hd n h => ?_) d n h
  · obtain ⟨r, hr, e⟩ := Nul.left ⟨d, h⟩
    rw [← e]; exact hN r hr
  · obtain ⟨r, hr, e, hs⟩ := nul_succ.1 h
    exact nul_succ.2 ⟨r, hr, e, fun s hs' => by
      obtain ⟨k, e, hk⟩ := hs s hs'
      exact ⟨k, e, hd k hk⟩⟩

/-! ### What comes to itself alone -/
/-- From one left side to another by a rule whose other symbols may be nothing. -/
def Step (R : List GRule) (n k : Nat) : Prop := ∃ r ∈ R, r.1 = n ∧ ∃ a b, r.2 = a ++ some k :: b ∧ ∀ s ∈ a ++ b, ∃ j, s = some j ∧ Nul R j
/-- By one step or more, but so many at most, through left sides that have rules. -/
def Way (R : List GRule) : Nat → Nat → Nat → Prop
  | 0, _, _ => False
  | d + 1, n, k => Step R n k ∨ ∃ m, Way R d n m ∧ Step R m k
def Loopy (R : List GRule) : Prop := ∃ n d, Way R d n n
theorem Step.mono {R R' : List GRule} (hR : ∀ r ∈ R, r ∈ R') {n k : Nat} (h : Step R n k) : Step R' n k := by
  obtain ⟨r, hr, e, a, b, e2, hs⟩ := h
  exact ⟨r, hR r hr, e, a, b, e2, fun s hs' => by
    obtain ⟨j, e, hj⟩ := hs s hs'
    exact ⟨j, e, hj.mono hR⟩⟩
theorem Way.mono {R R' : List GRule} (hR : ∀ r ∈ R, r ∈ R') : ∀ {d n k : Nat}, Way R d n k → Way R' d n k
  | 0, _, _, h => h
  | d + 1, n, k, h => by
    rcases h with h | ⟨m, h1, h2⟩
    · exact .inl (h.mono hR)
    · exact .inr ⟨m, h1.mono hR, h2.mono hR⟩
theorem Way.up {R : List GRule} : ∀ {d n k : Nat}, Way R d n k → Way R (d + 1) n k
  | 0, _, _, h => h.elim
  | d + 1, n, k, h => by
    rcases h with h | ⟨m, h1, h2⟩
    · exact .inl h
    · exact .inr ⟨m, h1.up, h2⟩
theorem Way.le {R : List GRule} {d e n k : Nat} (h : Way R d n k) (hd : d ≤ e) : Way R e n k := by
  obtain ⟨j, rfl⟩ := Nat.exists_eq_add_of_le hd
  induction j with
  | zero => exact h
  | succ j ih => exact (ih (by omega)).up
theorem Way.join {R : List GRule} : ∀ {e d n m k : Nat}, Way R d n m → Way R e m k → Way R (d + e) n k
  | 0, _, _, _, _, _, h => h.elim
  | e + 1, d, n, m, k, h1, h2 => by
    rcases h2 with h2 | ⟨q, h3, h4⟩
    · exact Way.le (d := d + 1) (.inr ⟨m, h1, h2⟩) (by omega)
    · exact .inr ⟨q, Way.join h1 h3, h4⟩
theorem Loopy.mono {R R' : List GRule} (hR : ∀ r ∈ R, r ∈ R') (h : Loopy R) : Loopy R' := by
  obtain ⟨n, d, h⟩ := h
  exact ⟨n, d, h.mono hR⟩
/-- What steps on has a rule. -/
theorem Step.left {R : List GRule} {n k : Nat} (h : Step R n k) : ∃ r ∈ R, r.1 = n := by
  obtain ⟨r, hr, e, _⟩ := h
  exact ⟨r, hr, e⟩
/-- Of a loop, so many steps are enough as there are left sides. -/
theorem Loopy.short {R : List GRule} {N : Nat} (hN : ∀ r ∈ R, r.1 < N) (h : Loopy R) : ∃ n, n < N ∧ Way R N n n := by
  obtain ⟨n, d, h⟩ := h
  have hfirst : ∀ {d n k : Nat}, Way R d n k → n < N := by
    intro d
    induction d with
    | zero => exact fun h => h.elim
    | succ d ih =>
      intro n k h
      rcases h with h | ⟨m, h1, _⟩
      · obtain ⟨r, hr, e⟩ := h.left
        rw [← e]; exact hN r hr
      · exact ih h1
  have hn := hfirst h
  refine ⟨n, hn, ?_⟩
  have := chain_stable (N := N) (S := fun d k => Way R d n k ∧ k < N) (fun d k h => ⟨h.1.up, h.2⟩) (fun d k h => h.2) (fun d hd k h => ?_) d n ⟨h, hn⟩
  · exact this.1
  · refine ⟨?_, h.2⟩
    rcases h.1 with h1 | ⟨m, h1, h2⟩
    · exact .inl h1
    · have hm : m < N := by
        obtain ⟨r, hr, e⟩ := h2.left
        rw [← e]; exact hN r hr
      exact .inr ⟨m, (hd m ⟨h1, hm⟩).1, h2⟩
end Go.Proofs.YtddeekefomhbmaaGreatDoor
