/- Contracts of civil's padded and Of. Contracts of civil's Text and Parse. No condition. -/
import Derived.Test.YtnnhijfbdkokkaaGreatDoorCe
import Derived.Test.YtnnhijfbdkokkaaGreatDoorCf
import Derived.Lib.ItoaLen
/-! Contracts of civil's padded and Of. -/
namespace Go.Proofs.YtnnhijfbdkokkaaGreatDoor
open Go Go.Eng Go.RowKit
noncomputable section
set_option maxRecDepth 100000

/-! ### padded -/
def nats (l : List UInt8) : List Nat := l.map UInt8.toNat
theorem nats_append (a b : List UInt8) : nats (a ++ b) = nats a ++ nats b := List.map_append
theorem nats_len (a : List UInt8) : (nats a).length = a.length := List.length_map _
theorem repeat_zeros : ∀ k, Lib.repeatL [48] k = zeros k
  | 0 => rfl
  | k + 1 => by
    show [48] ++ Lib.repeatL [48] k = 48 :: zeros k
    rw [repeat_zeros k]; rfl
theorem nats_zeros : ∀ k, nats (zeros k) = bytesZ k
  | 0 => rfl
  | k + 1 => by
    show (48 : UInt8).toNat :: nats (zeros k) = 48 :: bytesZ k
    rw [nats_zeros k]; rfl
def sgP (u size : Nat) : Nat → Value
  | 0 => .int .i64 (u : Int)
  | 1 => strV (Lib.decDigits u)
  | 2 => strV (pad u size)
  | _ => .nilIface
def padL : List (Nat × Nat) := [(4, 1), (4, 2), (4, 3), (4, 4), (2, 1), (2, 2)]
theorem typ9 {E : Env} (h : E.ty = E0.ty) : und E 9 = some .string := by
  unfold und; rw [h]; kernel_rfl
theorem c_pad {u size : Nat} (hp : (size, Lib.nDigits u) ∈ padL) (hu : u ≤ 100000) : CW fPadded #[.int .i64 (u : Int), .int .i64 (size : Int)] (strV (pad u size)) := by
  have hs : size ≤ 4 := by
    have : ∀ p ∈ padL, p.1 ≤ 4 := by decide
    exact this _ hp
  refine CallsV.script (E := EV) envV 9 (σ := sgP u size) (orows := orPad size (Lib.nDigits u)) (krows := krPad size (Lib.nDigits u)) (fun m r hr => ?_) (fun m r hr => ?_) (rowRun_H (allB_spec runPad (size, Lib.nDigits u) hp)) (fun m => ⟨_, _, rfl, ⟨rfl, rfl⟩, _, _, rfl, rfl, rfl⟩) (fun m => ⟨rfl, rfl⟩) rfl tabV_hold
  · simp only [orPad, List.mem_cons, List.mem_nil_iff, or_false] at hr
    rcases hr with rfl | rfl
    · refine RowOK.len (typ9 rfl) (x := nats (Lib.decDigits u)) rfl ?_
      rw [nats_len, Lib.decDigits_length]; rfl
    · refine RowOK.cat (p := bytesZ (size - Lib.nDigits u)) (q := nats (Lib.decDigits u)) (r := nats (pad u size)) rfl rfl rfl ?_ ?_
      · unfold pad; rw [nats_append, nats_zeros]
      · rw [nats_len]
        unfold pad zeros
        rw [List.length_append, List.length_replicate, Lib.decDigits_length]
        have := Lib.nDigits_le20 u (by omega)
        omega
  · simp only [krPad, List.mem_cons, List.mem_nil_iff, or_false] at hr
    rcases hr with rfl | rfl
    · exact KRow.ofV glC_OK glC_bare (withM_kM _ _) rfl (va := #[.int .i64 (u : Int)]) ⟨_, _, rfl, ⟨rfl, rfl⟩, rfl⟩ (.inl rfl) (u := strV (Lib.decDigits u)) ⟨rfl, rfl⟩ (c_itoa u (by omega))
    · refine KRow.ofV glC_OK glC_bare (withM_kM _ _) rfl (va := #[strV [48], .int .i64 ((size - Lib.nDigits u : Nat) : Int)]) ⟨_, _, rfl, ⟨_, rfl, rfl⟩, _, _, rfl, rfl, rfl⟩ (.inl rfl) (u := strV (Lib.repeatL [48] (size - Lib.nDigits u))) ⟨_, rfl, ?_⟩ (c_zeros _ (by omega))
      show nats (Lib.repeatL [48] (size - Lib.nDigits u)) = _
      rw [repeat_zeros, nats_zeros]; rfl

/-! ### Of -/
def sgOf (y d : Nat) (l : Bool) : Nat → Value := fun i => if i = 0 then .int .i64 (y : Int) else if i = 2 then .int .i64 (d : Int) else if i = 10 then .int .i64 (aheadI (y : Int)) else .int .i64 ((aheadN y + d + daysM l (i - 11) : Nat) : Int)
theorem c_of {y mm d : Nat} (y1 : 1 ≤ y) (y2 : y ≤ 9999) (m1 : 1 ≤ mm) (m2 : mm ≤ 12) (d1 : 1 ≤ d) (d2 : d ≤ longN (leapB (y : Int)) mm) :
    CV fOf #[.int .i64 (y : Int), .int .i64 (mm : Int), .int .i64 (d : Int)] (.tuple #[.int .i64 ((aheadN y + d + daysM (leapB (y : Int)) (mm - 1) : Nat) : Int), .bool true]) := by
  have hah : aheadN y ≤ 3652059 := by
    have := ahead_mono (y := y) (z := 9999) (by omega) (by omega)
    have e : aheadN 9999 = 3651694 := by decide
    omega
  generalize hl : leapB (y : Int) = l at *
  have T := daysM_le l
  have h31 : longN l mm ≤ 31 := by unfold longN; split <;> first | omega | (cases l <;> decide)
  have sN : ∀ i, 11 ≤ i → sgOf y d l i = .int .i64 ((aheadN y + d + daysM l (i - 11) : Nat) : Int) := fun i hi => by
    unfold sgOf; rw [if_neg (by omega), if_neg (by omega), if_neg (by omega)]
  refine CallsV.script (E := E0) envOK 9 (σ := sgOf y d l) (orows := orOf l mm) (krows := krOf l mm) (fun m r hr => ?_) (fun m r hr => ?_) (rowRun_H (allB_spec (runOf0 l) mm (months12_mem m1 m2))) (fun m => ⟨_, _, rfl, ⟨rfl, rfl⟩, _, _, rfl, rfl, _, _, rfl, ⟨rfl, rfl⟩, rfl⟩) (fun m => ?_) rfl
  · have c0 : conc (withM (sgOf y d l) m) (.sym 0) = .int .i64 (y : Int) := conc_at (by decide) rfl
    have c2 : conc (withM (sgOf y d l) m) (.sym 2) = .int .i64 (d : Int) := conc_at (by decide) rfl
    have c10 : conc (withM (sgOf y d l) m) (.sym 10) = .int .i64 (aheadI (y : Int)) := conc_at (by decide) rfl
    have cN : ∀ i, i < 100 → conc (withM (sgOf y d l) m) (.sym (11 + i)) = .int .i64 ((aheadN y + d + daysM l i : Nat) : Int) := fun i hi => conc_at (by omega) (by rw [sN _ (by omega), show 11 + i - 11 = i by omega])
    unfold orOf at hr
    rcases List.mem_append.1 hr with hr | hr
    · simp only [List.mem_cons, List.mem_nil_iff, or_false] at hr
      rcases hr with rfl | rfl | rfl | rfl | rfl | rfl
      · exact RowOK.cmp .i64 (x := (y : Int)) (y := 1) c0 rfl (.inr (.inr (.inl ⟨rfl, by symm; rw [decide_eq_false_iff_not]; omega⟩)))
      · exact RowOK.cmp .i64 (x := (y : Int)) (y := 9999) c0 rfl (.inr (.inr (.inr (.inr (.inl ⟨rfl, by symm; rw [decide_eq_false_iff_not]; omega⟩)))))
      · exact RowOK.cmp .i64 (x := (d : Int)) (y := 1) c2 rfl (.inr (.inr (.inl ⟨rfl, by symm; rw [decide_eq_false_iff_not]; omega⟩)))
      · exact RowOK.cmp .i64 (x := (d : Int)) (y := (longN l mm : Int)) c2 rfl (.inr (.inr (.inr (.inr (.inl ⟨rfl, by symm; rw [decide_eq_false_iff_not]; omega⟩)))))
      · exact RowOK.add64 (x := aheadI (y : Int)) (y := (d : Int)) c10 c2 (cN 0 (by omega)) (by rw [ahead_eq (by omega)]; show _ = ((aheadN y + d + 0 : Nat) : Int); omega) (by omega) (by show ((aheadN y + d + 0 : Nat) : Int) < _; omega)
      · have cm : conc (withM (sgOf y d l) m) (.sym (Nat.add 10 mm)) = .int .i64 ((aheadN y + d + daysM l (mm - 1) : Nat) : Int) := by
          have := cN (mm - 1) (by omega)
          rwa [show 11 + (mm - 1) = Nat.add 10 mm from by show _ = 10 + mm; omega] at this
        have t := T (mm - 1)
        exact RowOK.conv (u := tInt) (d := tDay) (k := .i64) (k' := .i64) (n := ((aheadN y + d + daysM l (mm - 1) : Nat) : Int)) (by show und E0 3 = some (.int .i64); kernel_rfl) (by show und E0 28 = some (.int .i64); kernel_rfl) cm (by rw [cm, wrap64_id (by omega) (by omega)]) (by decide)
    · obtain ⟨j, hj, hr⟩ := flatR_mem hr
      simp only [List.mem_cons, List.mem_nil_iff, or_false] at hr
      subst hr
      have hj : j + 1 < mm := by have : Nat.pred mm = mm - 1 := rfl; omega
      have t := T (j + 1)
      have e : daysM l (j + 1) = daysM l j + longN l (j + 1) := rfl
      exact RowOK.add64 (x := ((aheadN y + d + daysM l j : Nat) : Int)) (y := (longN l (j + 1) : Int)) (cN j (by omega)) rfl (show conc _ (.sym (12 + j)) = _ from by rw [show 12 + j = 11 + (j + 1) by omega]; exact cN (j + 1) (by omega)) (by rw [e]; omega) (by omega) (by omega)
  · unfold krOf at hr
    rcases List.mem_cons.1 hr with rfl | hr
    · exact KRow.ofV glC_OK glC_bare (withM_kM _ _) rfl (va := #[.int .i64 (y : Int)]) ⟨_, _, rfl, ⟨rfl, rfl⟩, rfl⟩ (.inl rfl) (u := .int .i64 (aheadI (y : Int))) ⟨rfl, rfl⟩ (c_ahead (by omega) (by omega))
    · obtain ⟨j, hj, rfl⟩ := List.mem_map.1 hr
      have hj := upTo_mem.1 hj
      have c := c_long (y : Int) (m := j + 1) (by omega) (by omega)
      rw [hl] at c
      exact KRow.ofV glC_OK glC_bare (withM_kM _ _) rfl (va := #[.int .i64 (y : Int), .int .i64 ((j + 1 : Nat) : Int)]) ⟨_, _, rfl, ⟨rfl, rfl⟩, _, _, rfl, rfl, rfl⟩ (.inl rfl) (u := .int .i64 ((longN l (j + 1) : Nat) : Int)) rfl c
  · refine ⟨_, rfl, _, _, rfl, ⟨?_, rfl⟩, _, _, rfl, rfl, rfl⟩
    show Value.int .i64 _ = withM _ _ (10 + mm)
    rw [withM_ne (show 10 + mm ≠ 900 by omega), sN _ (by omega), show 10 + mm - 11 = mm - 1 by omega]
end
end Go.Proofs.YtnnhijfbdkokkaaGreatDoor

/-! Contracts of civil's Text and Parse. -/
namespace Go.Proofs.YtnnhijfbdkokkaaGreatDoor
open Go Go.Eng Go.RowKit
noncomputable section
set_option maxRecDepth 100000

/-- This day's year, month and day of the month. -/
structure Dated (n y mm d : Nat) : Prop where
  y1 : 1 ≤ y
  y2 : y ≤ 9999
  m1 : 1 ≤ mm
  m2 : mm ≤ 12
  d1 : 1 ≤ d
  d2 : d ≤ longN (leapB (y : Int)) mm
  e : n = aheadN y + daysM (leapB (y : Int)) (mm - 1) + d
  c : CV fDate #[.int .i64 (n : Int)] (.tuple #[.int .i64 (y : Int), .int .i64 (mm : Int), .int .i64 (d : Int)])
theorem dated (n : Nat) (h1 : 1 ≤ n) (h2 : n ≤ 3652059) : ∃ y mm d, Dated n y mm d := by
  obtain ⟨y, mm, d, h1, h2, h3, h4, h5, h6, h7, h8⟩ := c_date n h1 h2
  exact ⟨y, mm, d, h1, h2, h3, h4, h5, h6, h7, h8⟩
theorem Dated.d31 {n y mm d : Nat} (h : Dated n y mm d) : d ≤ 31 := by
  have h31 : longN (leapB (y : Int)) mm ≤ 31 := by unfold longN; split <;> first | omega | (cases leapB (y : Int) <;> decide)
  exact Nat.le_trans h.d2 h31
theorem pad4 {y : Nat} (h : y ≤ 9999) : (4, Lib.nDigits y) ∈ padL := by
  have h1 := Lib.nDigits_pos y
  have h2 := nDigits_le 3 y (by omega)
  have : ∀ k, k < 5 → 1 ≤ k → (4, k) ∈ padL := by decide
  exact this _ (by omega) h1
theorem pad2 {y : Nat} (h : y ≤ 99) : (2, Lib.nDigits y) ∈ padL := by
  have h1 := Lib.nDigits_pos y
  have h2 := nDigits_le 1 y (by omega)
  have : ∀ k, k < 3 → 1 ≤ k → (2, k) ∈ padL := by decide
  exact this _ (by omega) h1
theorem digit_nat {k : Nat} (h : k < 10) : (UInt8.ofNat (48 + k)).toNat = 48 + k := by rw [UInt8.toNat_ofNat']; omega
theorem nats_pad2 {u : Nat} (h : u < 100) : nats (pad u 2) = mmS u := by
  have ed : Nat.div u 10 = u / 10 := rfl
  have em : Nat.mod u 10 = u % 10 := rfl
  unfold pad zeros mmS
  rw [ed, em]
  by_cases h10 : u < 10
  · rw [Lib.nDigits_small h10, Lib.decDigits, dif_pos h10, show u / 10 = 0 by omega, show u % 10 = u by omega]
    show [(48 : UInt8).toNat, (UInt8.ofNat (48 + u)).toNat] = _
    rw [digit_nat h10]; rfl
  · rw [Lib.nDigits_big h10, Lib.nDigits_small (show u / 10 < 10 by omega), Lib.decDigits, dif_neg h10, Lib.decDigits, dif_pos (show u / 10 < 10 by omega)]
    show [(UInt8.ofNat (48 + u / 10)).toNat, (UInt8.ofNat (48 + u % 10)).toNat] = _
    rw [digit_nat (by omega), digit_nat (by omega)]; rfl

theorem drop_past (a b : List Nat) {i k : Nat} (h : i = a.length + k) : (a ++ b).drop i = b.drop k := by
  subst h
  rw [List.drop_append, List.drop_of_length_le (by omega), show a.length + k - a.length = k by omega, List.nil_append]

/-- The day as civil writes it. -/
def dayT (y mm d : Nat) : List UInt8 := (((pad y 4 ++ [45]) ++ pad mm 2) ++ [45]) ++ pad d 2
def sgT (n y mm d : Nat) : Nat → Value
  | 0 => .int .i64 (n : Int)
  | 1 => .int .i64 (y : Int)
  | 2 => .int .i64 (d : Int)
  | 3 => strV (pad y 4)
  | 4 => strV (pad d 2)
  | 5 => strV (pad y 4 ++ [45])
  | 6 => strV ((pad y 4 ++ [45]) ++ pad mm 2)
  | 7 => strV (((pad y 4 ++ [45]) ++ pad mm 2) ++ [45])
  | 8 => strV (dayT y mm d)
  | _ => .nilIface
section
variable {n y mm d : Nat} (h : Dated n y mm d)
include h
theorem Dated.l4 : (pad y 4).length = 4 := pad_length (by have := nDigits_le 3 y (by have := h.y2; omega); omega)
theorem Dated.lm : (pad mm 2).length = 2 := pad_length (by have := nDigits_le 1 mm (by have := h.m2; omega); omega)
theorem Dated.ld : (pad d 2).length = 2 := pad_length (by have := nDigits_le 1 d (by have := h.d31; omega); omega)
theorem Dated.l10 : (dayT y mm d).length = 10 := by
  unfold dayT
  simp only [List.length_append, h.l4, h.lm, h.ld, List.length_singleton]
theorem Dated.nm : nats (pad mm 2) = mmS mm := nats_pad2 (by have := h.m2; omega)
theorem c_text : CW fText #[.int .i64 (n : Int)] (strV (dayT y mm d)) := by
  have hy := h.y2; have hm := h.m2; have hd := h.d31; have y1 := h.y1
  refine CallsV.script (E := EV) envV 9 (σ := sgT n y mm d) (orows := orText mm) (krows := krText mm) (fun m r hr => ?_) (fun m r hr => ?_) (rowRun_H (allB_spec runText mm (months12_mem h.m1 h.m2))) (fun m => ⟨_, _, rfl, ⟨rfl, rfl⟩, rfl⟩) (fun m => ⟨rfl, rfl⟩) rfl tabV_hold
  · simp only [orText, List.mem_cons, List.mem_nil_iff, or_false] at hr
    rcases hr with rfl | rfl | rfl | rfl | rfl
    · exact RowOK.cmp .i64 (x := (y : Int)) (y := 0) rfl rfl (.inl ⟨rfl, by symm; rw [decide_eq_false_iff_not]; omega⟩)
    · exact RowOK.cat (p := nats (pad y 4)) (q := [45]) (r := nats (pad y 4 ++ [45])) rfl rfl rfl (by rw [nats_append]; rfl) (by rw [nats_len, List.length_append, h.l4]; decide)
    · exact RowOK.cat (p := nats (pad y 4 ++ [45])) (q := mmS mm) (r := nats ((pad y 4 ++ [45]) ++ pad mm 2)) rfl rfl rfl (by rw [nats_append _ (pad mm 2), h.nm]) (by rw [nats_len, List.length_append, List.length_append, h.l4, h.lm]; decide)
    · exact RowOK.cat (p := nats ((pad y 4 ++ [45]) ++ pad mm 2)) (q := [45]) (r := nats (((pad y 4 ++ [45]) ++ pad mm 2) ++ [45])) rfl rfl rfl (by rw [nats_append _ [45]]; rfl) (by rw [nats_len, List.length_append, List.length_append, List.length_append, h.l4, h.lm]; decide)
    · exact RowOK.cat (p := nats (((pad y 4 ++ [45]) ++ pad mm 2) ++ [45])) (q := nats (pad d 2)) (r := nats (dayT y mm d)) rfl rfl rfl (by unfold dayT; rw [nats_append _ (pad d 2)]) (by rw [nats_len, h.l10]; decide)
  · simp only [krText, List.mem_cons, List.mem_nil_iff, or_false] at hr
    rcases hr with rfl | rfl | rfl | rfl
    · exact KRow.ofV glC_OK glC_bare (withM_kM _ _) rfl (va := #[.int .i64 (n : Int)]) ⟨_, _, rfl, ⟨rfl, rfl⟩, rfl⟩ (.inr ⟨_, rfl, rfl⟩) (u := .tuple #[.int .i64 (y : Int), .int .i64 (mm : Int), .int .i64 (d : Int)]) ⟨_, rfl, _, _, rfl, ⟨rfl, rfl⟩, _, _, rfl, rfl, _, _, rfl, ⟨rfl, rfl⟩, rfl⟩ h.c.w
    · exact KRow.ofV glC_OK glC_bare (withM_kM _ _) rfl (va := #[.int .i64 (y : Int), .int .i64 (4 : Nat)]) ⟨_, _, rfl, ⟨rfl, rfl⟩, _, _, rfl, rfl, rfl⟩ (.inl rfl) (u := strV (pad y 4)) ⟨rfl, rfl⟩ (c_pad (pad4 hy) (by omega))
    · exact KRow.ofV glC_OK glC_bare (withM_kM _ _) rfl (va := #[.int .i64 (mm : Int), .int .i64 (2 : Nat)]) ⟨_, _, rfl, rfl, _, _, rfl, rfl, rfl⟩ (.inl rfl) (u := strV (pad mm 2)) ⟨_, rfl, h.nm⟩ (c_pad (pad2 (by omega)) (by omega))
    · exact KRow.ofV glC_OK glC_bare (withM_kM _ _) rfl (va := #[.int .i64 (d : Int), .int .i64 (2 : Nat)]) ⟨_, _, rfl, ⟨rfl, rfl⟩, _, _, rfl, rfl, rfl⟩ (.inl rfl) (u := strV (pad d 2)) ⟨rfl, rfl⟩ (c_pad (pad2 (by omega)) (by omega))
theorem c_parse : CW fParse #[strV (dayT y mm d)] (.tuple #[.int .i64 (n : Int), .bool true]) := by
  have hy := h.y2; have hm := h.m2; have hd := h.d31; have y1 := h.y1
  have l4 : (nats (pad y 4)).length = 4 := by rw [nats_len, h.l4]
  have l2 : (nats (pad mm 2)).length = 2 := by rw [nats_len, h.lm]
  have l8 : (nats (pad d 2)).length = 2 := by rw [nats_len, h.ld]
  have l10 : (nats (dayT y mm d)).length = 10 := by rw [nats_len, h.l10]
  have eN : nats (dayT y mm d) = nats (pad y 4) ++ (45 :: (nats (pad mm 2) ++ (45 :: nats (pad d 2)))) := by
    unfold dayT
    simp only [nats_append, List.append_assoc]; rfl
  refine CallsV.script (E := EV) envV 9 (σ := sgT n y mm d) (orows := orParse mm) (krows := krParse mm) (fun m r hr => ?_) (fun m r hr => ?_) (rowRun_H (allB_spec runParse mm (months12_mem h.m1 h.m2))) (fun m => ⟨_, _, rfl, ⟨rfl, rfl⟩, rfl⟩) (fun m => ⟨_, rfl, _, _, rfl, ⟨rfl, rfl⟩, _, _, rfl, rfl, rfl⟩) rfl tabV_hold
  · simp only [orParse, List.mem_cons, List.mem_nil_iff, or_false] at hr
    rcases hr with rfl | rfl | rfl | rfl | rfl | rfl | rfl
    · exact RowOK.len (typ9 rfl) (x := nats (dayT y mm d)) rfl (by rw [l10]; rfl)
    · refine RowOK.idx (typ9 rfl) (x := nats (dayT y mm d)) (k := .i64) (n := 4) (c := 45) rfl rfl ?_ rfl
      rw [eN, List.getElem?_append_right (by omega), l4]; rfl
    · refine RowOK.idx (typ9 rfl) (x := nats (dayT y mm d)) (k := .i64) (n := 7) (c := 45) rfl rfl ?_ rfl
      rw [eN, List.getElem?_append_right (by omega), l4]
      show (nats (pad mm 2) ++ (45 :: nats (pad d 2)))[2]? = _
      rw [List.getElem?_append_right (by omega), l2]; rfl
    · refine RowOK.part (typ9 rfl) (a := .sym 8) (x := nats (dayT y mm d)) (lo := 0) (hi := 4) rfl (by omega) (by omega) ?_ (.inr (.inr ⟨rfl, rfl, _, .i64, rfl, rfl⟩))
      show AV.str (nats (pad y 4)) = .str ((nats (dayT y mm d)).take 4)
      rw [eN, List.take_append_of_le_length (by omega), List.take_of_length_le (by omega)]
    · refine RowOK.part (typ9 rfl) (a := .sym 8) (x := nats (dayT y mm d)) (lo := 5) (hi := 7) rfl (by omega) (by omega) ?_ (.inl ⟨rfl, _, _, .i64, .i64, rfl, rfl, rfl⟩)
      show AV.str (mmS mm) = .str (((nats (dayT y mm d)).drop 5).take 2)
      have e5 : (nats (dayT y mm d)).drop 5 = nats (pad mm 2) ++ (45 :: nats (pad d 2)) := by
        rw [eN, drop_past _ _ (k := 1) (by omega)]; rfl
      rw [e5, List.take_append_of_le_length (by omega), List.take_of_length_le (by omega), h.nm]
    · refine RowOK.part (typ9 rfl) (a := .sym 8) (x := nats (dayT y mm d)) (lo := 8) (hi := 10) rfl (by omega) (by omega) ?_ (.inr (.inl ⟨rfl, l10.symm, _, .i64, rfl, rfl⟩))
      show AV.str (nats (pad d 2)) = .str (((nats (dayT y mm d)).drop 8).take 2)
      have e8 : (nats (dayT y mm d)).drop 8 = nats (pad d 2) := by
        rw [eN, drop_past _ _ (k := 4) (by omega)]
        show (nats (pad mm 2) ++ (45 :: nats (pad d 2))).drop 3 = _
        rw [drop_past _ _ (k := 1) (by omega)]; rfl
      rw [e8, List.take_of_length_le (by omega)]
    · exact RowOK.seq (p := nats (dayT y mm d)) (q := nats (dayT y mm d)) rfl rfl (.inr ⟨rfl, by simp⟩)
  · simp only [krParse, List.mem_cons, List.mem_nil_iff, or_false] at hr
    rcases hr with rfl | rfl | rfl | rfl | rfl
    · exact KRow.ofV glC_OK glC_bare (withM_kM _ _) rfl (va := #[strV (pad y 4)]) ⟨_, _, rfl, ⟨rfl, rfl⟩, rfl⟩ (.inr ⟨_, rfl, rfl⟩) (u := .tuple #[.int .i64 (y : Int), .nilIface]) ⟨_, rfl, _, _, rfl, ⟨rfl, rfl⟩, _, _, rfl, rfl, rfl⟩ (c_atoi _ _ (by rw [h.l4]; omega) (atoi_pad (nDigits_le 3 y (by omega)) (by omega)))
    · exact KRow.ofV glC_OK glC_bare (withM_kM _ _) rfl (va := #[strV (pad mm 2)]) ⟨_, _, rfl, ⟨_, rfl, h.nm⟩, rfl⟩ (.inr ⟨_, rfl, rfl⟩) (u := .tuple #[.int .i64 (mm : Int), .nilIface]) ⟨_, rfl, _, _, rfl, rfl, _, _, rfl, rfl, rfl⟩ (c_atoi _ _ (by rw [h.lm]; omega) (atoi_pad (nDigits_le 1 mm (by omega)) (by omega)))
    · exact KRow.ofV glC_OK glC_bare (withM_kM _ _) rfl (va := #[strV (pad d 2)]) ⟨_, _, rfl, ⟨rfl, rfl⟩, rfl⟩ (.inr ⟨_, rfl, rfl⟩) (u := .tuple #[.int .i64 (d : Int), .nilIface]) ⟨_, rfl, _, _, rfl, ⟨rfl, rfl⟩, _, _, rfl, rfl, rfl⟩ (c_atoi _ _ (by rw [h.ld]; omega) (atoi_pad (nDigits_le 1 d (by omega)) (by omega)))
    · have c := c_of h.y1 h.y2 h.m1 h.m2 h.d1 h.d2
      rw [show aheadN y + d + daysM (leapB (y : Int)) (mm - 1) = n by have := h.e; omega] at c
      exact KRow.ofV glC_OK glC_bare (withM_kM _ _) rfl (va := #[.int .i64 (y : Int), .int .i64 (mm : Int), .int .i64 (d : Int)]) ⟨_, _, rfl, ⟨rfl, rfl⟩, _, _, rfl, rfl, _, _, rfl, ⟨rfl, rfl⟩, rfl⟩ (.inr ⟨_, rfl, rfl⟩) (u := .tuple #[.int .i64 (n : Int), .bool true]) ⟨_, rfl, _, _, rfl, ⟨rfl, rfl⟩, _, _, rfl, rfl, rfl⟩ c.w
    · exact KRow.ofV glC_OK glC_bare (withM_kM _ _) rfl (va := #[.int .i64 (n : Int)]) ⟨_, _, rfl, ⟨rfl, rfl⟩, rfl⟩ (.inl rfl) (u := strV (dayT y mm d)) ⟨rfl, rfl⟩ (c_text h)
end
end
end Go.Proofs.YtnnhijfbdkokkaaGreatDoor
