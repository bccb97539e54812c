/- Fields between blanks; numerals: plain laws. Days as they are told: plain laws. Runs of closed calls, by the kernel. No condition. -/
import Derived.Test.YtjhnpcnamclfbaaGreatDoorWb
import Derived.Lib.SplitLaws
import Derived.Test.YtjhnpcnamclfbaaGreatDoorCs
/-! Fields between blanks; numerals: plain laws. -/
namespace Go.Proofs.YtjhnpcnamclfbaaGreatDoor
open Go Go.Eng Go.RowKit
noncomputable section
set_option maxRecDepth 100000

/-! ### Numerals -/
def digs (l : List UInt8) : Prop := ∀ b ∈ l, 48 ≤ b.toNat ∧ b.toNat ≤ 57
def nvF (a : Nat) (l : List UInt8) : Nat := l.foldl (fun a c => 10 * a + (c.toNat - 48)) a
def nv (l : List UInt8) : Nat := nvF 0 l
theorem nvF_cons (a : Nat) (c : UInt8) (l : List UInt8) : nvF a (c :: l) = nvF (10 * a + (c.toNat - 48)) l := by simp only [nvF, List.foldl_cons]
theorem nv_snoc (l : List UInt8) (c : UInt8) : nv (l ++ [c]) = 10 * nv l + (c.toNat - 48) := by simp only [nv, nvF, List.foldl_append, List.foldl_cons, List.foldl_nil]
theorem nvF_ge (l : List UInt8) : ∀ a : Nat, a ≤ nvF a l := by
  induction l with
  | nil => intro a; exact Nat.le_refl a
  | cons c l ih =>
    intro a
    have := ih (10 * a + (c.toNat - 48))
    rw [nvF_cons]; omega
theorem u8_at {d : Nat} (h : d < 10) : (UInt8.ofNat (48 + d)).toNat = 48 + d := by
  rw [UInt8.toNat_ofNat']; omega
theorem dec_small {u : Nat} (h : u < 10) : Lib.decDigits u = [UInt8.ofNat (48 + u)] := by rw [Lib.decDigits, dif_pos h]
theorem dec_big {u : Nat} (h : ¬ u < 10) : Lib.decDigits u = Lib.decDigits (u / 10) ++ [UInt8.ofNat (48 + u % 10)] := by rw [Lib.decDigits, dif_neg h]
theorem nv_dec (u : Nat) : nv (Lib.decDigits u) = u := by
  induction u using Nat.strongRecOn with
  | _ u ih =>
    by_cases h : u < 10
    · rw [dec_small h]
      show 10 * 0 + ((UInt8.ofNat (48 + u)).toNat - 48) = u
      rw [u8_at h]; omega
    · rw [dec_big h, nv_snoc, ih (u / 10) (by omega), u8_at (by omega)]; omega
theorem dec_head (u : Nat) : 1 ≤ u → ∃ c r, Lib.decDigits u = c :: r ∧ c.toNat ≠ 48 := by
  induction u using Nat.strongRecOn with
  | _ u ih =>
    intro h1
    by_cases h : u < 10
    · exact ⟨_, [], dec_small h, by rw [u8_at h]; omega⟩
    · obtain ⟨c, r, e, hc⟩ := ih (u / 10) (by omega) (by omega)
      exact ⟨c, r ++ [UInt8.ofNat (48 + u % 10)], by rw [dec_big h, e]; rfl, hc⟩
theorem parse_digs : ∀ (l : List UInt8) (a : Nat), digs l → nvF a l < 9223372036854775808 → Lib.parseUint10 a l = .ok (nvF a l)
  | [], _, _, _ => rfl
  | c :: l, a, hd, h => by
    have hc := hd c (by simp)
    rw [nvF_cons] at h ⊢
    have := nvF_ge l (10 * a + (c.toNat - 48))
    unfold Lib.parseUint10
    rw [if_pos hc, if_neg (by omega), if_neg (by omega), show a * 10 + (c.toNat - 48) = 10 * a + (c.toNat - 48) by omega]
    exact parse_digs l _ (fun b hb => hd b (by simp [hb])) h
theorem atoi_dec {v : Nat} (h : v < 9223372036854775808) : Lib.atoiAll (Lib.decDigits v) = .ok (v : Int) := by
  have hd : digs (Lib.decDigits v) := digits_all v
  have hp := parse_digs (Lib.decDigits v) 0 hd (by show nv _ < _; rw [nv_dec]; exact h)
  rw [show nvF 0 (Lib.decDigits v) = v from nv_dec v] at hp
  cases e : Lib.decDigits v with
  | nil => exact absurd e (digits_ne v)
  | cons c r =>
    have hc := hd c (by rw [e]; simp)
    have hm : Lib.parseMag (c :: r) = .ok v := by
      unfold Lib.parseMag
      rw [if_neg (by simp), ← e]; exact hp
    unfold Lib.atoiAll
    simp only
    rw [if_neg (by omega), hm]
    simp only
    rw [if_neg (by omega), if_neg (by omega), if_neg (by omega)]
/-- A numeral that an int holds. -/
def numOK (l : List UInt8) : Prop := ∃ v : Nat, v < 9223372036854775808 ∧ l = Lib.decDigits v
theorem numOK.val {l : List UInt8} (h : numOK l) : atoiN l = nv l ∧ atoiB l = true ∧ nv l < 9223372036854775808 ∧ digs l ∧ l ≠ [] ∧ l.length ≤ 19 ∧ Lib.itoa (atoiN l) = l ∧ (1 < l.length → ∃ c r, l = c :: r ∧ c.toNat ≠ 48) := by
  obtain ⟨v, hv, rfl⟩ := h
  have e := atoi_dec hv
  have en : atoiN (Lib.decDigits v) = (v : Int) := by unfold atoiN; rw [e]
  refine ⟨by rw [en, nv_dec], by unfold atoiB; rw [e], by rw [nv_dec]; exact hv, digits_all v, digits_ne v, ?_, by rw [en, Lib.itoa_nonneg], fun hl => ?_⟩
  · rw [Lib.decDigits_length]; exact nDigits_le 18 v (by omega)
  · by_cases h0 : 1 ≤ v
    · exact dec_head v h0
    · obtain rfl : v = 0 := by omega
      rw [dec_small (by omega)] at hl
      simp at hl
/-! ### Fields -/
def bare (l : List (List UInt8)) : Prop := ∀ f ∈ l, 32 ∉ f
theorem fields_of : ∀ s : List UInt8, ∃ (fs : List (List UInt8)) (t : List UInt8), bare fs ∧ 32 ∉ t ∧ tailS fs t = s
  | [] => ⟨[], [], fun f hf => (by cases hf), by simp, rfl⟩
  | c :: s => by
    obtain ⟨fs, t, h1, h2, h3⟩ := fields_of s
    by_cases hc : c = 32
    · refine ⟨[] :: fs, t, fun f hf => ?_, h2, ?_⟩
      · rcases List.mem_cons.1 hf with rfl | hf
        · simp
        · exact h1 f hf
      · show [] ++ 32 :: tailS fs t = _
        rw [h3, hc]; rfl
    · cases fs with
      | nil =>
        refine ⟨[], c :: t, fun f hf => (by cases hf), fun hm => ?_, ?_⟩
        · rcases List.mem_cons.1 hm with e | hm
          · exact hc e.symm
          · exact h2 hm
        · show c :: t = _
          rw [show t = s from h3]
      | cons g r =>
        refine ⟨(c :: g) :: r, t, fun f hf => ?_, h2, ?_⟩
        · rcases List.mem_cons.1 hf with rfl | hf
          · intro hm
            rcases List.mem_cons.1 hm with e | hm
            · exact hc e.symm
            · exact h1 g (by simp) hm
          · exact h1 f (by simp [hf])
        · show (c :: g) ++ 32 :: tailS r t = _
          rw [← h3]; rfl
theorem index_at {a b : List UInt8} (h : 32 ∉ a) : Lib.index (a ++ 32 :: b) [32] = (a.length : Nat) := by
  rw [Lib.index_one, indexByte_at a b h]
theorem indexByte_none : ∀ {a : List UInt8}, 32 ∉ a → Lib.indexByte a 32 = -1
  | [], _ => rfl
  | c :: a, h => by
    have hc : c ≠ 32 := fun e => h (by rw [e]; simp)
    unfold Lib.indexByte
    rw [indexByte_none (a := a) fun hm => h (by simp [hm])]
    have : (c == 32) = false := by rw [beq_eq_false_iff_ne]; exact hc
    rw [this]; rfl
theorem index_no {a : List UInt8} (h : 32 ∉ a) : Lib.index a [32] = -1 := by
  rw [Lib.index_one, indexByte_none h]
theorem count_tail : ∀ (fs : List (List UInt8)) (t : List UInt8), bare fs → 32 ∉ t → Lib.count (tailS fs t) [32] = fs.length
  | [], t, _, h => Lib.count_miss (index_no h)
  | f :: fs, t, hb, h => by
    have e : Lib.index (tailS (f :: fs) t) [32] = (f.length : Nat) := index_at (hb f (by simp))
    rw [Lib.count_hit (by simp) e]
    show 1 + Lib.count ((f ++ 32 :: tailS fs t).drop (f.length + 1)) [32] = _
    rw [← List.drop_drop, List.drop_left]
    show 1 + Lib.count (tailS fs t) [32] = _
    rw [count_tail fs t (fun g hg => hb g (by simp [hg])) h, List.length_cons, Nat.add_comm]
theorem split_tail : ∀ (fs : List (List UInt8)) (t : List UInt8), bare fs → 32 ∉ t → Lib.splitK [32] 0 fs.length (tailS fs t) = fs ++ [t]
  | [], _, _, _ => rfl
  | f :: fs, t, hb, h => by
    have e : Lib.index (tailS (f :: fs) t) [32] = (f.length : Nat) := index_at (hb f (by simp))
    have hm : ¬ (Lib.index (tailS (f :: fs) t) [32] == -1) = true := fun h => by have := beq_iff_eq.1 h; omega
    rw [List.length_cons, Lib.splitK, if_neg hm, e]
    show (f ++ 32 :: tailS fs t).take (f.length + 0) :: Lib.splitK [32] 0 fs.length ((f ++ 32 :: tailS fs t).drop (f.length + 1)) = _
    rw [← List.drop_drop, List.drop_left, Nat.add_zero, List.take_left]
    show f :: Lib.splitK [32] 0 fs.length (tailS fs t) = _
    rw [split_tail fs t (fun g hg => hb g (by simp [hg])) h]; rfl
theorem splitB_tail (fs : List (List UInt8)) (t : List UInt8) (hb : bare fs) (h : 32 ∉ t) :
    (Lib.splitB ⟨#[32]⟩ 0 (Lib.countB ⟨(tailS fs t).toArray⟩ ⟨#[32]⟩) ⟨(tailS fs t).toArray⟩).map Value.string = (fs ++ [t]).map strV := by
  have e : Lib.countB ⟨(tailS fs t).toArray⟩ ⟨#[32]⟩ = fs.length := count_tail fs t hb h
  rw [e]
  have := Lib.splitB_data ⟨#[32]⟩ 0 fs.length ⟨(tailS fs t).toArray⟩
  rw [show Lib.splitK ((⟨#[32]⟩ : ByteArray).data.toList) 0 fs.length ((⟨(tailS fs t).toArray⟩ : ByteArray).data.toList) = fs ++ [t] from split_tail fs t hb h] at this
  rw [← this, List.map_map]
  rfl
end
end Go.Proofs.YtjhnpcnamclfbaaGreatDoor

/-! Days as they are told: plain laws. -/
namespace Go.Proofs.YtjhnpcnamclfbaaGreatDoor
open Go Go.Eng Go.RowKit
noncomputable section
set_option maxRecDepth 100000

theorem nats_iff {a b : List UInt8} : nats a = nats b ↔ a = b := by
  refine ⟨fun h => ?_, fun h => by rw [h]⟩
  induction a generalizing b with
  | nil => cases b with
    | nil => rfl
    | cons c b => cases h
  | cons c a ih => cases b with
    | nil => cases h
    | cons d b =>
      simp only [nats, List.map_cons, List.cons.injEq] at h
      rw [UInt8.toNat_inj.1 h.1, ih h.2]
def wdB : List (List (List Nat)) := [[[109,111,110,100,97,121], [116,117,101,115,100,97,121], [119,101,100,110,101,115,100,97,121], [116,104,117,114,115,100,97,121], [102,114,105,100,97,121], [115,97,116,117,114,100,97,121], [115,117,110,100,97,121]],
  [[109,111,110,116,97,103], [100,105,101,110,115,116,97,103], [109,105,116,116,119,111,99,104], [100,111,110,110,101,114,115,116,97,103], [102,114,101,105,116,97,103], [115,97,109,115,116,97,103], [115,111,110,110,116,97,103]],
  [[108,117,110,100,105], [109,97,114,100,105], [109,101,114,99,114,101,100,105], [106,101,117,100,105], [118,101,110,100,114,101,100,105], [115,97,109,101,100,105], [100,105,109,97,110,99,104,101]],
  [[112,111,110,105,101,100,122,105,97,197,130,101,107], [119,116,111,114,101,107], [197,155,114,111,100,97], [99,122,119,97,114,116,101,107], [112,105,196,133,116,101,107], [115,111,98,111,116,97], [110,105,101,100,122,105,101,108,97]]]
def moB : List (List (List Nat)) := [[[106,97,110,117,97,114,121], [102,101,98,114,117,97,114,121], [109,97,114,99,104], [97,112,114,105,108], [109,97,121], [106,117,110,101], [106,117,108,121], [97,117,103,117,115,116], [115,101,112,116,101,109,98,101,114], [111,99,116,111,98,101,114], [110,111,118,101,109,98,101,114], [100,101,99,101,109,98,101,114]],
  [[106,97,110,117,97,114], [102,101,98,114,117,97,114], [109,195,164,114,122], [97,112,114,105,108], [109,97,105], [106,117,110,105], [106,117,108,105], [97,117,103,117,115,116], [115,101,112,116,101,109,98,101,114], [111,107,116,111,98,101,114], [110,111,118,101,109,98,101,114], [100,101,122,101,109,98,101,114]],
  [[106,97,110,118,105,101,114], [102,195,169,118,114,105,101,114], [109,97,114,115], [97,118,114,105,108], [109,97,105], [106,117,105,110], [106,117,105,108,108,101,116], [97,111,195,187,116], [115,101,112,116,101,109,98,114,101], [111,99,116,111,98,114,101], [110,111,118,101,109,98,114,101], [100,195,169,99,101,109,98,114,101]],
  [[115,116,121,99,122,110,105,117], [108,117,116,121,109], [109,97,114,99,117], [107,119,105,101,116,110,105,117], [109,97,106,117], [99,122,101,114,119,99,117], [108,105,112,99,117], [115,105,101,114,112,110,105,117], [119,114,122,101,197,155,110,105,117], [112,97,197,186,100,122,105,101,114,110,105,107,117], [108,105,115,116,111,112,97,100,122,105,101], [103,114,117,100,110,105,117]]]
def wdA (k i : Nat) : List Nat := pick [] (pick [] wdB k) i
def moA (k i : Nat) : List Nat := pick [] (pick [] moB k) i
def toB (l : List Nat) : List UInt8 := l.map UInt8.ofNat
def k4 : List Nat := [0, 1, 2, 3]
def w7 : List Nat := [0, 1, 2, 3, 4, 5, 6]
def m12 : List Nat := [0, 1, 2, 3, 4, 5, 6, 7, 8, 9, 10, 11]
theorem mem_k4 {k : Nat} (h : k < 4) : k ∈ k4 := by
  have : ∀ k, k < 4 → k ∈ k4 := by decide
  exact this k h
theorem mem_w7 {k : Nat} (h : k < 7) : k ∈ w7 := by
  have : ∀ k, k < 7 → k ∈ w7 := by decide
  exact this k h
theorem mem_m12 {k : Nat} (h : k < 12) : k ∈ m12 := by
  have : ∀ k, k < 12 → k ∈ m12 := by decide
  exact this k h
def okW (l : List Nat) : Bool := allB (fun c => Nat.blt c 256 && !Nat.beq c 32) l && Nat.blt (len l) 20
theorem wd_okW : allB (fun k => allB (fun i => okW (wdA k i)) w7) k4 = true := by kernel_rfl
theorem mo_okW : allB (fun k => allB (fun i => okW (moA k i)) m12) k4 = true := by kernel_rfl
theorem mo_apart : allB (fun k => allB (fun o => allB (fun i => allB (fun j => Nat.beq i j || !eqNats (moA k i) (moA o j)) m12) m12) k4) k4 = true := by kernel_rfl
theorem nats_toB' : ∀ {l : List Nat}, allB (fun c => Nat.blt c 256 && !Nat.beq c 32) l = true → nats (toB l) = l
  | [], _ => rfl
  | c :: l, h => by
    simp only [allB, Bool.and_eq_true] at h
    have hc : c < 256 := Nat.le_of_ble_eq_true h.1.1
    show (UInt8.ofNat c).toNat :: nats (toB l) = c :: l
    rw [nats_toB' h.2, UInt8.toNat_ofNat']
    congr 1; omega
theorem nats_toB {l : List Nat} (h : okW l = true) : nats (toB l) = l := by
  unfold okW at h
  rw [Bool.and_eq_true] at h
  exact nats_toB' h.1
theorem toB_bare {l : List Nat} (h : okW l = true) : 32 ∉ toB l := by
  intro hm
  have h0 := h
  unfold okW at h
  rw [Bool.and_eq_true] at h
  have hm' : (32 : UInt8).toNat ∈ nats (toB l) := List.mem_map.2 ⟨_, hm, rfl⟩
  rw [nats_toB h0] at hm'
  have := allB_spec h.1 _ hm'
  simp at this
theorem toB_len {l : List Nat} (h : okW l = true) : (toB l).length < 20 := by
  unfold okW at h
  rw [Bool.and_eq_true, blt_iff, decide_eq_true_iff, len_eq] at h
  unfold toB
  rw [List.length_map]; exact h.2
theorem wd_ok7 {k i : Nat} (hk : k < 4) (hi : i < 7) : okW (wdA k i) = true := allB_spec (allB_spec wd_okW k (mem_k4 hk)) i (mem_w7 hi)
theorem mo_ok12 {k i : Nat} (hk : k < 4) (hi : i < 12) : okW (moA k i) = true := allB_spec (allB_spec mo_okW k (mem_k4 hk)) i (mem_m12 hi)
theorem mo_inj {k o i j : Nat} (hk : k < 4) (ho : o < 4) (hi : i < 12) (hj : j < 12) (e : toB (moA k i) = toB (moA o j)) : i = j := by
  have h := allB_spec (allB_spec (allB_spec (allB_spec mo_apart k (mem_k4 hk)) o (mem_k4 ho)) i (mem_m12 hi)) j (mem_m12 hj)
  rw [Bool.or_eq_true] at h
  rcases h with h | h
  · exact Nat.eq_of_beq_eq_true h
  · exfalso
    have e2 : moA k i = moA o j := by rw [← nats_toB (mo_ok12 hk hi), ← nats_toB (mo_ok12 ho hj), e]
    rw [e2, eqNats_eq] at h
    simp at h

theorem tail_inj {fs gs : List (List UInt8)} {t u : List UInt8} (hf : bare fs) (ht : 32 ∉ t) (hg : bare gs) (hu : 32 ∉ u) (e : tailS fs t = tailS gs u) : fs = gs ∧ t = u := by
  have h1 := count_tail fs t hf ht
  have h2 := count_tail gs u hg hu
  have hl : fs.length = gs.length := by rw [← h1, ← h2, e]
  have s1 := split_tail fs t hf ht
  have s2 := split_tail gs u hg hu
  rw [e, hl, s2] at s1
  have h := List.append_inj' s1 rfl
  exact ⟨h.1.symm, by simpa using h.2.symm⟩

theorem tail_len_le : ∀ (fs : List (List UInt8)) (t : List UInt8), t.length ≤ (tailS fs t).length ∧ fs.length ≤ (tailS fs t).length
  | [], t => ⟨Nat.le_refl _, Nat.zero_le _⟩
  | f :: fs, t => by
    obtain ⟨h1, h2⟩ := tail_len_le fs t
    show t.length ≤ (f ++ 32 :: tailS fs t).length ∧ fs.length + 1 ≤ (f ++ 32 :: tailS fs t).length
    rw [List.length_append, List.length_cons]
    omega

/-! ### Dates are the days' own -/
theorem Dated.lo {n y mm d : Nat} (h : Dated n y mm d) : aheadN y < n := by
  have := h.e; have := h.d1; omega
theorem Dated.mon {n y mm d : Nat} (h : Dated n y mm d) : daysM (leapB (y : Int)) (mm - 1) < n - aheadN y ∧ n - aheadN y ≤ daysM (leapB (y : Int)) mm := by
  have e := h.e; have := h.d1; have d2 := h.d2; have m1 := h.m1
  obtain ⟨j, rfl⟩ : ∃ j, mm = j + 1 := ⟨mm - 1, by omega⟩
  have es : daysM (leapB (y : Int)) (j + 1) = daysM (leapB (y : Int)) j + longN (leapB (y : Int)) (j + 1) := rfl
  rw [show j + 1 - 1 = j by omega] at e ⊢
  omega
theorem Dated.hi {n y mm d : Nat} (h : Dated n y mm d) : n ≤ aheadN (y + 1) := by
  have h1 := h.mon.2
  have h2 := daysM_mono (leapB (y : Int)) h.m2
  have h3 := days12 (leapB (y : Int))
  have h4 := ahead_step y h.y1
  cases hb : leapB (y : Int) <;> (rw [hb] at h1 h2 h3 h4; simp at h3 h4; omega)
theorem Dated.range {n y mm d : Nat} (h : Dated n y mm d) : 1 ≤ n ∧ n ≤ 3652059 := by
  have h1 := h.lo
  have h2 := h.hi
  have h3 := ahead_mono (y := y + 1) (z := 10000) (by omega) (by have := h.y2; omega)
  have e : aheadN 10000 = 3652059 := by decide
  omega
theorem Dated.uniq {n y mm d y' mm' d' : Nat} (h : Dated n y mm d) (k : Dated n y' mm' d') : y = y' ∧ mm = mm' ∧ d = d' := by
  have yy : y = y' := by
    have a1 := h.lo; have a2 := h.hi; have b1 := k.lo; have b2 := k.hi
    rcases Nat.lt_trichotomy y y' with c | c | c
    · have := ahead_mono (y := y + 1) (z := y') (by omega) (by omega); omega
    · exact c
    · have := ahead_mono (y := y' + 1) (z := y) (by omega) (by omega); omega
  subst yy
  have mm_ : mm = mm' := by
    have a := h.mon; have b := k.mon
    rcases Nat.lt_trichotomy mm mm' with c | c | c
    · have := daysM_mono (leapB (y : Int)) (a := mm) (b := mm' - 1) (by omega); omega
    · exact c
    · have := daysM_mono (leapB (y : Int)) (a := mm') (b := mm - 1) (by omega); omega
  subst mm_
  refine ⟨rfl, rfl, ?_⟩
  have := h.e; have := k.e; omega
theorem Dated.back {n n' y mm d : Nat} (h : Dated n y mm d) (k : Dated n' y mm d) : n = n' := by
  have := h.e; have := k.e; omega

/-! ### Texts -/
def lineT (k n y mm d : Nat) : List UInt8 := tailS [toB (wdA k ((n - 1) % 7)), Lib.decDigits d, toB (moA k (mm - 1))] (Lib.decDigits y)
open Classical in
/-- A day's text in a language. -/
def lineF (k n : Nat) : List UInt8 := if h : ∃ T : List UInt8, ∃ y mm d, Dated n y mm d ∧ T = lineT k n y mm d then Classical.choose h else []
theorem lineF_eq {k n y mm d : Nat} (h : Dated n y mm d) : lineF k n = lineT k n y mm d := by
  have hx : ∃ T : List UInt8, ∃ y mm d, Dated n y mm d ∧ T = lineT k n y mm d := ⟨_, y, mm, d, h, rfl⟩
  unfold lineF
  rw [dif_pos hx]
  obtain ⟨y', mm', d', h', e⟩ := Classical.choose_spec hx
  obtain ⟨rfl, rfl, rfl⟩ := h.uniq h'
  exact e
/-- The same, of any number. -/
def lineI (k : Nat) (z : Int) : List UInt8 := if 1 ≤ z ∧ z ≤ 3652059 then lineF k z.toNat else []
theorem lineI_nat {k n : Nat} (h1 : 1 ≤ n) (h2 : n ≤ 3652059) : lineI k (n : Int) = lineF k n := by
  unfold lineI
  rw [if_pos (by omega), Int.toNat_natCast]
theorem dec_bare (u : Nat) : 32 ∉ Lib.decDigits u := fun hm => by
  have := digits_all u 32 hm
  exact absurd this.1 (by decide)
theorem dec_inj {u v : Nat} (h : Lib.decDigits u = Lib.decDigits v) : u = v := by rw [← nv_dec u, ← nv_dec v, h]
theorem line_bare {k n y mm d : Nat} (hk : k < 4) (h : Dated n y mm d) : bare [toB (wdA k ((n - 1) % 7)), Lib.decDigits d, toB (moA k (mm - 1))] := by
  intro f hf
  simp only [List.mem_cons, List.mem_nil_iff, or_false] at hf
  rcases hf with rfl | rfl | rfl
  · exact toB_bare (wd_ok7 hk (Nat.mod_lt _ (by omega)))
  · exact dec_bare d
  · exact toB_bare (mo_ok12 hk (by have := h.m1; have := h.m2; omega))
/-- Texts, whatever the languages, are of one day alone. -/
theorem line_inj {k o n n' : Nat} (hk : k < 4) (ho : o < 4) (h1 : 1 ≤ n) (h2 : n ≤ 3652059) (h1' : 1 ≤ n') (h2' : n' ≤ 3652059) (e : lineF k n = lineF o n') : n = n' := by
  obtain ⟨y, mm, d, h⟩ := dated n h1 h2
  obtain ⟨y', mm', d', h'⟩ := dated n' h1' h2'
  rw [lineF_eq h, lineF_eq h'] at e
  obtain ⟨e1, e2⟩ := tail_inj (line_bare hk h) (dec_bare y) (line_bare ho h') (dec_bare y') e
  simp only [List.cons.injEq] at e1
  obtain ⟨_, e3, e4, _⟩ := e1
  have ey := dec_inj e2
  have ed := dec_inj e3
  have em := mo_inj hk ho (by have := h.m1; have := h.m2; omega) (by have := h'.m1; have := h'.m2; omega) e4
  have em : mm = mm' := by have := h.m1; have := h'.m1; omega
  subst ey; subst ed; subst em
  exact h.back h'
theorem line_len {k n : Nat} (hk : k < 4) : (lineF k n).length ≤ 60 := by
  unfold lineF
  split
  · rename_i hx
    obtain ⟨y, mm, d, h, e⟩ := Classical.choose_spec hx
    rw [e]
    have a := toB_len (wd_ok7 (k := k) (i := (n - 1) % 7) hk (Nat.mod_lt _ (by omega)))
    have b := toB_len (mo_ok12 (k := k) (i := mm - 1) hk (by have := h.m1; have := h.m2; omega))
    have c := nDigits_le 1 d (by have := h.d31; omega)
    have c' := nDigits_le 3 y (by have := h.y2; omega)
    have c2 := Lib.decDigits_length d
    have c3 := Lib.decDigits_length y
    unfold lineT
    simp only [tailS, List.length_append, List.length_cons]
    omega
  · simp
theorem lineI_len {k : Nat} (hk : k < 4) (z : Int) : (lineI k z).length ≤ 60 := by
  unfold lineI
  split
  · exact line_len hk
  · simp
end
end Go.Proofs.YtjhnpcnamclfbaaGreatDoor

/-! Runs of closed calls, by the kernel. -/
namespace Go.Proofs.YtjhnpcnamclfbaaGreatDoor
open Go Go.Eng

set_option maxRecDepth 100000
theorem run01 : imgRun (EM []) gl 377 40000 [] yes = true := by kernel_rfl
theorem know01 : KnownI Tryz.prog gl 377 yes := knows [] (fun _ h => by cases h) run01
theorem run02 : imgRun (EM [(377, yes)]) gl 376 40000 [] yes = true := by kernel_rfl
theorem know02 : KnownI Tryz.prog gl 376 yes := knows [(377, yes)] (by
  intro x hx
  simp only [List.mem_cons, List.mem_nil_iff, or_false] at hx
  rcases hx with rfl
  · exact know01) run02
theorem run03 : imgRun (EM [(376, yes)]) gl 374 40000 [] yes = true := by kernel_rfl
theorem know03 : KnownI Tryz.prog gl 374 yes := knows [(376, yes)] (by
  intro x hx
  simp only [List.mem_cons, List.mem_nil_iff, or_false] at hx
  rcases hx with rfl
  · exact know02) run03
theorem run04 : imgRun (EM [(374, yes)]) gl 372 40000 [] yes = true := by kernel_rfl
theorem know04 : KnownI Tryz.prog gl 372 yes := knows [(374, yes)] (by
  intro x hx
  simp only [List.mem_cons, List.mem_nil_iff, or_false] at hx
  rcases hx with rfl
  · exact know03) run04

end Go.Proofs.YtjhnpcnamclfbaaGreatDoor
