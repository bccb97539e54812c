/- Fields between blanks; numerals: plain laws. wire.Decode at any string: the runs on symbols. wire.Decode at any string: what the symbols stand for; the rows are so. wire.Decode at any string: its rows. No condition. -/
import Derived.Test.YtnnhijfbdkokkaaGreatDoorUb
import Derived.Lib.SplitLaws
/-! Fields between blanks; numerals: plain laws. -/
namespace Go.Proofs.YtnnhijfbdkokkaaGreatDoor
open Go Go.Eng Go.RowKit
noncomputable section
set_option maxRecDepth 100000

/-! ### Numerals -/
def digs (l : List UInt8) : Prop := ∀ b ∈ l, 48 ≤ b.toNat ∧ b.toNat ≤ 57
def nvF (a : Nat) (l : List UInt8) : Nat := l.foldl (fun a c => 10 * a + (c.toNat - 48)) a
def nv (l : List UInt8) : Nat := nvF 0 l
theorem nvF_cons (a : Nat) (c : UInt8) (l : List UInt8) : nvF a (c :: l) = nvF (10 * a + (c.toNat - 48)) l := by simp only [nvF, List.foldl_cons]
theorem nv_snoc (l : List UInt8) (c : UInt8) : nv (l ++ [c]) = 10 * nv l + (c.toNat - 48) := by simp only [nv, nvF, List.foldl_append, List.foldl_cons, List.foldl_nil]
theorem nvF_ge (l : List UInt8) : ∀ a : Nat, a ≤ nvF a l := by
  induction l with
  | nil => intro a; exact Nat.le_refl a
  | cons c l ih =>
    intro a
    have := ih (10 * a + (c.toNat - 48))
    rw [nvF_cons]; omega
theorem nvF_lt : ∀ (l : List UInt8) (a k : Nat), digs l → a < 10 ^ k → nvF a l < 10 ^ (k + l.length)
  | [], _, _, _, h => h
  | c :: l, a, k, hd, h => by
    rw [nvF_cons]
    have hc := hd c (by simp)
    have h10 : (10 : Nat) ^ (k + 1) = 10 ^ k * 10 := Nat.pow_succ 10 k
    have := nvF_lt l (10 * a + (c.toNat - 48)) (k + 1) (fun b hb => hd b (by simp [hb])) (by omega)
    rw [List.length_cons, show k + (l.length + 1) = k + 1 + l.length by omega]; exact this
theorem nv_lt {l : List UInt8} (hd : digs l) : nv l < 10 ^ l.length := by
  have := nvF_lt l 0 0 hd (by decide)
  rwa [Nat.zero_add] at this
theorem u8_at {d : Nat} (h : d < 10) : (UInt8.ofNat (48 + d)).toNat = 48 + d := by
  rw [UInt8.toNat_ofNat']; omega
theorem u8_eq {c : UInt8} {d : Nat} (h : c.toNat = 48 + d) : c = UInt8.ofNat (48 + d) := by
  apply UInt8.toNat_inj.1
  rw [UInt8.toNat_ofNat', h]
  have := c.toNat_lt
  omega
theorem dec_small {u : Nat} (h : u < 10) : Lib.decDigits u = [UInt8.ofNat (48 + u)] := by rw [Lib.decDigits, dif_pos h]
theorem dec_big {u : Nat} (h : ¬ u < 10) : Lib.decDigits u = Lib.decDigits (u / 10) ++ [UInt8.ofNat (48 + u % 10)] := by rw [Lib.decDigits, dif_neg h]
theorem nv_dec (u : Nat) : nv (Lib.decDigits u) = u := by
  induction u using Nat.strongRecOn with
  | _ u ih =>
    by_cases h : u < 10
    · rw [dec_small h]
      show 10 * 0 + ((UInt8.ofNat (48 + u)).toNat - 48) = u
      rw [u8_at h]; omega
    · rw [dec_big h, nv_snoc, ih (u / 10) (by omega), u8_at (by omega)]; omega
theorem dec_head (u : Nat) : 1 ≤ u → ∃ c r, Lib.decDigits u = c :: r ∧ c.toNat ≠ 48 := by
  induction u using Nat.strongRecOn with
  | _ u ih =>
    intro h1
    by_cases h : u < 10
    · exact ⟨_, [], dec_small h, by rw [u8_at h]; omega⟩
    · obtain ⟨c, r, e, hc⟩ := ih (u / 10) (by omega) (by omega)
      exact ⟨c, r ++ [UInt8.ofNat (48 + u % 10)], by rw [dec_big h, e]; rfl, hc⟩
theorem dec_of (n : Nat) : ∀ (l : List UInt8), l.length = n → digs l → l ≠ [] → (1 < l.length → ∃ c r, l = c :: r ∧ c.toNat ≠ 48) → l = Lib.decDigits (nv l) := by
  induction n with
  | zero => intro l hn _ hne; exact absurd (List.eq_nil_of_length_eq_zero hn) hne
  | succ n ih =>
    intro l hn hd hne hh
    have hl := List.dropLast_concat_getLast hne
    generalize hr : l.dropLast = r at hl
    generalize l.getLast hne = c at hl
    have hc := hd c (by rw [← hl]; simp)
    have hdr : digs r := fun b hb => hd b (by rw [← hl]; simp [hb])
    have hrl : r.length = n := by rw [← hr, List.length_dropLast]; omega
    rw [← hl, nv_snoc]
    cases r with
    | nil =>
      rw [show nv [] = 0 from rfl, dec_small (by omega)]
      rw [List.nil_append]
      congr 1
      exact u8_eq (by omega)
    | cons b r' =>
      have hb : b.toNat ≠ 48 := by
        obtain ⟨x, y, e, hx⟩ := hh (by rw [hn]; simp at hrl; omega)
        have : b = x := by
          rw [← hl] at e
          exact (List.cons.inj e).1
        rwa [this]
      have e := ih (b :: r') hrl hdr (by simp) (fun _ => ⟨b, r', rfl, hb⟩)
      have hpos : nv (b :: r') ≠ 0 := fun h0 => by
        rw [h0, show Lib.decDigits 0 = [UInt8.ofNat 48] from dec_small (by omega)] at e
        have := (List.cons.inj e).1
        exact hb (by rw [this]; rfl)
      rw [dec_big (u := 10 * nv (b :: r') + (c.toNat - 48)) (by omega), show (10 * nv (b :: r') + (c.toNat - 48)) / 10 = nv (b :: r') by omega, ← e]
      congr 2
      exact u8_eq (by omega)
theorem parse_digs : ∀ (l : List UInt8) (a : Nat), digs l → nvF a l < 9223372036854775808 → Lib.parseUint10 a l = .ok (nvF a l)
  | [], _, _, _ => rfl
  | c :: l, a, hd, h => by
    have hc := hd c (by simp)
    rw [nvF_cons] at h ⊢
    have := nvF_ge l (10 * a + (c.toNat - 48))
    unfold Lib.parseUint10
    rw [if_pos hc, if_neg (by omega), if_neg (by omega), show a * 10 + (c.toNat - 48) = 10 * a + (c.toNat - 48) by omega]
    exact parse_digs l _ (fun b hb => hd b (by simp [hb])) h
theorem atoi_dec {v : Nat} (h : v < 9223372036854775808) : Lib.atoiAll (Lib.decDigits v) = .ok (v : Int) := by
  have hd : digs (Lib.decDigits v) := digits_all v
  have hp := parse_digs (Lib.decDigits v) 0 hd (by show nv _ < _; rw [nv_dec]; exact h)
  rw [show nvF 0 (Lib.decDigits v) = v from nv_dec v] at hp
  cases e : Lib.decDigits v with
  | nil => exact absurd e (digits_ne v)
  | cons c r =>
    have hc := hd c (by rw [e]; simp)
    have hm : Lib.parseMag (c :: r) = .ok v := by
      unfold Lib.parseMag
      rw [if_neg (by simp), ← e]; exact hp
    unfold Lib.atoiAll
    simp only
    rw [if_neg (by omega), hm]
    simp only
    rw [if_neg (by omega), if_neg (by omega), if_neg (by omega)]
/-- A numeral that an int holds. -/
def numOK (l : List UInt8) : Prop := ∃ v : Nat, v < 9223372036854775808 ∧ l = Lib.decDigits v
theorem numOK.val {l : List UInt8} (h : numOK l) : atoiN l = nv l ∧ atoiB l = true ∧ nv l < 9223372036854775808 ∧ digs l ∧ l ≠ [] ∧ l.length ≤ 19 ∧ Lib.itoa (atoiN l) = l ∧ (1 < l.length → ∃ c r, l = c :: r ∧ c.toNat ≠ 48) := by
  obtain ⟨v, hv, rfl⟩ := h
  have e := atoi_dec hv
  have en : atoiN (Lib.decDigits v) = (v : Int) := by unfold atoiN; rw [e]
  refine ⟨by rw [en, nv_dec], by unfold atoiB; rw [e], by rw [nv_dec]; exact hv, digits_all v, digits_ne v, ?_, by rw [en, Lib.itoa_nonneg], fun hl => ?_⟩
  · rw [Lib.decDigits_length]; exact nDigits_le 18 v (by omega)
  · by_cases h0 : 1 ≤ v
    · exact dec_head v h0
    · obtain rfl : v = 0 := by omega
      rw [dec_small (by omega)] at hl
      simp at hl
/-- As wire sees it. -/
theorem num_wire (l : List UInt8) : (atoiB l = true ∧ Lib.itoa (atoiN l) = l ∧ 0 ≤ atoiN l) ↔ numOK l := by
  constructor
  · rintro ⟨_, h2, h3⟩
    have := (atoiN_bounds l).2
    refine ⟨(atoiN l).toNat, by omega, ?_⟩
    rw [← Lib.itoa_nonneg, show (((atoiN l).toNat : Nat) : Int) = atoiN l by omega, h2]
  · intro h
    obtain ⟨h1, h2, _, _, _, _, h7, _⟩ := h.val
    exact ⟨h2, h7, by omega⟩
/-- As the law sees it. -/
theorem num_law {l : List UInt8} (hd : digs l) : (l ≠ [] ∧ nv l < 9223372036854775808 ∧ (1 < l.length → ∃ c r, l = c :: r ∧ c.toNat ≠ 48)) ↔ numOK l := by
  constructor
  · rintro ⟨h1, h2, h3⟩
    exact ⟨nv l, h2, dec_of _ l rfl hd h1 h3⟩
  · intro h
    obtain ⟨_, _, h3, _, h5, _, _, h8⟩ := h.val
    exact ⟨h5, h3, h8⟩

/-! ### Fields -/
def bare (l : List (List UInt8)) : Prop := ∀ f ∈ l, 32 ∉ f
theorem fields_of : ∀ s : List UInt8, ∃ (fs : List (List UInt8)) (t : List UInt8), bare fs ∧ 32 ∉ t ∧ tailS fs t = s
  | [] => ⟨[], [], fun f hf => (by cases hf), by simp, rfl⟩
  | c :: s => by
    obtain ⟨fs, t, h1, h2, h3⟩ := fields_of s
    by_cases hc : c = 32
    · refine ⟨[] :: fs, t, fun f hf => ?_, h2, ?_⟩
      · rcases List.mem_cons.1 hf with rfl | hf
        · simp
        · exact h1 f hf
      · show [] ++ 32 :: tailS fs t = _
        rw [h3, hc]; rfl
    · cases fs with
      | nil =>
        refine ⟨[], c :: t, fun f hf => (by cases hf), fun hm => ?_, ?_⟩
        · rcases List.mem_cons.1 hm with e | hm
          · exact hc e.symm
          · exact h2 hm
        · show c :: t = _
          rw [show t = s from h3]
      | cons g r =>
        refine ⟨(c :: g) :: r, t, fun f hf => ?_, h2, ?_⟩
        · rcases List.mem_cons.1 hf with rfl | hf
          · intro hm
            rcases List.mem_cons.1 hm with e | hm
            · exact hc e.symm
            · exact h1 g (by simp) hm
          · exact h1 f (by simp [hf])
        · show (c :: g) ++ 32 :: tailS r t = _
          rw [← h3]; rfl
theorem index_at {a b : List UInt8} (h : 32 ∉ a) : Lib.index (a ++ 32 :: b) [32] = (a.length : Nat) := by
  rw [Lib.index_one, indexByte_at a b h]
theorem indexByte_none : ∀ {a : List UInt8}, 32 ∉ a → Lib.indexByte a 32 = -1
  | [], _ => rfl
  | c :: a, h => by
    have hc : c ≠ 32 := fun e => h (by rw [e]; simp)
    unfold Lib.indexByte
    rw [indexByte_none (a := a) fun hm => h (by simp [hm])]
    have : (c == 32) = false := by rw [beq_eq_false_iff_ne]; exact hc
    rw [this]; rfl
theorem index_no {a : List UInt8} (h : 32 ∉ a) : Lib.index a [32] = -1 := by
  rw [Lib.index_one, indexByte_none h]
theorem count_tail : ∀ (fs : List (List UInt8)) (t : List UInt8), bare fs → 32 ∉ t → Lib.count (tailS fs t) [32] = fs.length
  | [], t, _, h => Lib.count_miss (index_no h)
  | f :: fs, t, hb, h => by
    have e : Lib.index (tailS (f :: fs) t) [32] = (f.length : Nat) := index_at (hb f (by simp))
    rw [Lib.count_hit (by simp) e]
    show 1 + Lib.count ((f ++ 32 :: tailS fs t).drop (f.length + 1)) [32] = _
    rw [← List.drop_drop, List.drop_left]
    show 1 + Lib.count (tailS fs t) [32] = _
    rw [count_tail fs t (fun g hg => hb g (by simp [hg])) h, List.length_cons, Nat.add_comm]
theorem split_tail : ∀ (fs : List (List UInt8)) (t : List UInt8), bare fs → 32 ∉ t → Lib.splitK [32] 0 fs.length (tailS fs t) = fs ++ [t]
  | [], _, _, _ => rfl
  | f :: fs, t, hb, h => by
    have e : Lib.index (tailS (f :: fs) t) [32] = (f.length : Nat) := index_at (hb f (by simp))
    have hm : ¬ (Lib.index (tailS (f :: fs) t) [32] == -1) = true := fun h => by have := beq_iff_eq.1 h; omega
    rw [List.length_cons, Lib.splitK, if_neg hm, e]
    show (f ++ 32 :: tailS fs t).take (f.length + 0) :: Lib.splitK [32] 0 fs.length ((f ++ 32 :: tailS fs t).drop (f.length + 1)) = _
    rw [← List.drop_drop, List.drop_left, Nat.add_zero, List.take_left]
    show f :: Lib.splitK [32] 0 fs.length (tailS fs t) = _
    rw [split_tail fs t (fun g hg => hb g (by simp [hg])) h]; rfl
theorem strV_list (b : ByteArray) : Value.string b = strV b.data.toList := rfl
theorem splitB_tail (fs : List (List UInt8)) (t : List UInt8) (hb : bare fs) (h : 32 ∉ t) :
    (Lib.splitB ⟨#[32]⟩ 0 (Lib.countB ⟨(tailS fs t).toArray⟩ ⟨#[32]⟩) ⟨(tailS fs t).toArray⟩).map Value.string = (fs ++ [t]).map strV := by
  have e : Lib.countB ⟨(tailS fs t).toArray⟩ ⟨#[32]⟩ = fs.length := count_tail fs t hb h
  rw [e]
  have := Lib.splitB_data ⟨#[32]⟩ 0 fs.length ⟨(tailS fs t).toArray⟩
  rw [show Lib.splitK ((⟨#[32]⟩ : ByteArray).data.toList) 0 fs.length ((⟨(tailS fs t).toArray⟩ : ByteArray).data.toList) = fs ++ [t] from split_tail fs t hb h] at this
  rw [← this, List.map_map]
  rfl
end
end Go.Proofs.YtnnhijfbdkokkaaGreatDoor

/-! wire.Decode at any string: the runs on symbols. -/
namespace Go.Proofs.YtnnhijfbdkokkaaGreatDoor
open Go Go.Eng Go.RowKit
noncomputable section
set_option maxRecDepth 100000

def wdP : List Nat := [112, 97, 114, 115, 101]
def wdD : List Nat := [100, 101, 115, 99, 114, 105, 98, 101]
def wdV : List Nat := [112, 114, 101, 118, 105, 101, 119]
def wdC : List Nat := [99, 104, 101, 99, 107]
def words4 : List (List Nat) := [wdP, wdD, wdV, wdC]
def word (k : Nat) : List Nat := pick [] words4 k
/-- How many fields a kind has before the rest. -/
def many (k : Nat) : Nat := pick 0 [2, 1, 6, 0] k
/-- A field's kind: 0 a language, 1 a day, 2 a number. -/
def fkind (i : Nat) : Nat := pick 0 [0, 1, 1, 1, 2, 2] i
def zA : AV := .agg [.int .i64 0, .str [], .nilslice, .nilslice, .str []]
def formI : Img := ⟨.tuple [zA, .int .i64 1], []⟩
def okI (k : Nat) : Img := pick formI [⟨.tuple [.agg [.int .i64 0, .sym 11, .slice gN 0 1 1 1, .nilslice, .sym 22], .int .i64 0], [.cells [.sym 2] tDay true]⟩,
  ⟨.tuple [.agg [.int .i64 1, .sym 11, .nilslice, .nilslice, .sym 21], .int .i64 0], []⟩,
  ⟨.tuple [.agg [.int .i64 2, .sym 11, .slice gN 0 3 3 1, .slice (Nat.add gN 1) 0 2 2 1, .sym 26], .int .i64 0], [.cells [.sym 2, .sym 3, .sym 4] (Nat.add tailN tDay) true, .cells [.sym 5, .sym 6] (Nat.add tailN tInt) true]⟩,
  ⟨.tuple [.agg [.int .i64 3, .str [], .nilslice, .nilslice, .sym 20], .int .i64 0], []⟩] k

/-! The symbols: 0 the string, 8 its length, 9 its first word; 11 .. the fields, 20 .. what is left, 2 .. 6 days and numbers, 35, 36 the numbers' digits. -/
def cutK (i : Nat) : KR := ⟨fCut, [.sym (Nat.add 20 i), .str [32]], ⟨.tuple [.sym (Nat.add 11 i), .sym (Nat.add 21 i), .bool true], []⟩⟩
def cutN (i : Nat) : KR := ⟨fCut, [.sym (Nat.add 20 i), .str [32]], ⟨.tuple [.sym (Nat.add 20 i), .str [], .bool false], []⟩⟩
/-- A field's rows: e: is it one? -/
def fldK (c i : Nat) (e e1 : Bool) : List KR := match c with
  | 0 => []
  | 1 => [⟨fParse, [.sym (Nat.add 11 i)], ⟨.tuple [.sym (Nat.add 1 i), .bool e], []⟩⟩]
  | _ => [⟨fAtoi, [.sym (Nat.add 11 i)], ⟨.tuple [.sym (Nat.add 1 i), errA e1], []⟩⟩, ⟨fItoa, [.sym (Nat.add 1 i)], ⟨.sym (Nat.add 31 i), []⟩⟩]
def fldO (c i : Nat) (e e2 e3 : Bool) : List OR := match c with
  | 0 => [⟨12, [.sym 11, .str []], .bool e⟩]
  | 1 => []
  | _ => [⟨11, [.sym (Nat.add 31 i), .sym (Nat.add 11 i)], .bool e2⟩, ⟨16, [.sym (Nat.add 1 i), .int .i64 0], .bool e3⟩]
/-- The rows of the fields that are as they should be. -/
def goodK (j : Nat) : List KR := Nat.rec (motive := fun _ => List KR) [] (fun i l => (cutK i :: fldK (fkind i) i true true) ++ l) j
def goodO (j : Nat) : List OR := Nat.rec (motive := fun _ => List OR) [] (fun i l => fldO (fkind i) i true true true ++ l) j
def headO : List OR := [⟨20, [.sym 0], .sym 8⟩, ⟨15, [.sym 8, .int .i64 8192], .bool false⟩]
def headK (k : Nat) : KR := ⟨fCut, [.sym 0, .str [32]], ⟨.tuple [.str (word k), .sym 20, .bool true], []⟩⟩
def EWd (o : List OR) (k : List KR) : Env := Ee.askM 9 o [] (memoKH gl k)
def runD (o : List OR) (k : List KR) (ns : List Nat) (i : Img) : Bool := imgRunA (EWd (headO ++ o) k) gl fDecode [.sym 0] 3000 ns i
/-- No blank. -/
theorem runD0 : runD [] [⟨fCut, [.sym 0, .str [32]], ⟨.tuple [.sym 0, .str [], .bool false], []⟩⟩] [] formI = true := by kernel_rfl
/-- Another word. -/
def noWord : List OR := words4.map fun w => ⟨12, [.sym 9, .str w], .bool true⟩
theorem runDx : runD noWord [⟨fCut, [.sym 0, .str [32]], ⟨.tuple [.sym 9, .sym 20, .bool true], []⟩⟩] [] formI = true := by kernel_rfl
/-- As it should be. -/
def okN (k : Nat) : List Nat := pick [] [[1004], [], [1010, 1014], []] k
def four4 : List Nat := [0, 1, 2, 3]
theorem runDk : allB (fun k => runD (goodO (many k)) (headK k :: goodK (many k)) (okN k) (okI k)) four4 = true := by kernel_rfl
/-- A field lacks. -/
def lackL : List (Nat × Nat) := [(0, 0), (0, 1), (1, 0), (2, 0), (2, 1), (2, 2), (2, 3), (2, 4), (2, 5)]
theorem runDc : allB (fun x => runD (goodO x.2) (headK x.1 :: cutN x.2 :: goodK x.2) [] formI) lackL = true := by kernel_rfl
/-- A field is none. -/
theorem runDt : ∀ e1 e2 e3 : Bool, (e1 && e2 && e3) = false → allB (fun x => runD (fldO (fkind x.2) x.2 false e2 e3 ++ goodO x.2) (headK x.1 :: cutK x.2 :: (fldK (fkind x.2) x.2 false e1 ++ goodK x.2)) [] formI) lackL = true := by
  intro e1 e2 e3 h
  cases e1 <;> cases e2 <;> cases e3 <;> first | (cases h; done) | kernel_rfl
end
end Go.Proofs.YtnnhijfbdkokkaaGreatDoor

/-! wire.Decode at any string: what the symbols stand for; the rows are so. -/
namespace Go.Proofs.YtnnhijfbdkokkaaGreatDoor
open Go Go.Eng Go.RowKit
noncomputable section
set_option maxRecDepth 100000

/-! ### Contracts -/
theorem c_cut_none {a : List UInt8} (h : 32 ∉ a) (hl : a.length < 4294967281) : CG fCut #[strV a, strV [32]] (.tuple #[strV a, strV [], .bool false]) := by
  intro w ⟨m, hm⟩ _
  obtain ⟨ρ, hR⟩ := hm (fun _ => .int .i64 m) rfl
  refine (Tryz.strings_Cut ⟨a.toArray⟩ ⟨#[32]⟩ m w (by show a.toArray.size < _; rw [List.size_toArray]; exact hl) (maxLen_cell hR gl_has rfl)).mono ?_
  rintro e w' ⟨rfl, k, rfl⟩
  refine ⟨?_, Go.Joins.below_draws _ _ _⟩
  have hc : Lib.cut a [32] = (a, [], false) := by
    unfold Lib.cut
    rw [index_no h, if_neg (by omega)]
  show Ending.returned (.tuple #[.string ⟨(Lib.cut a [32]).1.toArray⟩, .string ⟨(Lib.cut a [32]).2.1.toArray⟩, .bool (Lib.cut a [32]).2.2]) = _
  rw [hc]; rfl
theorem c_itoaI (n : Int) (h0 : -9223372036854775808 ≤ n) (h1 : n ≤ 9223372036854775807) : CE fItoa #[.int .i64 n] (strV (Lib.itoa n)) := by
  intro w _ hv
  refine (Tryz.strconv_Itoa n h0 h1 w hv.1).mono ?_
  rintro e w' ⟨rfl, k, os, rfl⟩
  exact ⟨rfl, Lib.below_grow _ w (Nat.le_refl _) k os⟩
def pN (l : List UInt8) : Int := Classical.choose (c_parse_all l)
def pB (l : List UInt8) : Bool := Classical.choose (Classical.choose_spec (c_parse_all l))
theorem c_parseE (l : List UInt8) : CE fParse #[strV l] (.tuple #[.int .i64 (pN l), .bool (pB l)]) := Classical.choose_spec (Classical.choose_spec (c_parse_all l))

/-! ### The symbols -/
def fj (fs : List (List UInt8)) (i : Nat) : List UInt8 := fs.getD i []
def sgD (zz : Nat → Value) (s name : List UInt8) (fs : List (List UInt8)) (t : List UInt8) : Nat → Value
  | 0 => strV s
  | 2 => .int .i64 (pN (fj fs 1))
  | 3 => .int .i64 (pN (fj fs 2))
  | 4 => .int .i64 (pN (fj fs 3))
  | 5 => .int .i64 (atoiN (fj fs 4))
  | 6 => .int .i64 (atoiN (fj fs 5))
  | 8 => .int .i64 (s.length : Nat)
  | 9 => strV name
  | 11 => strV (fj fs 0)
  | 12 => strV (fj fs 1)
  | 13 => strV (fj fs 2)
  | 14 => strV (fj fs 3)
  | 15 => strV (fj fs 4)
  | 16 => strV (fj fs 5)
  | 20 => strV (tailS (fs.drop 0) t)
  | 21 => strV (tailS (fs.drop 1) t)
  | 22 => strV (tailS (fs.drop 2) t)
  | 23 => strV (tailS (fs.drop 3) t)
  | 24 => strV (tailS (fs.drop 4) t)
  | 25 => strV (tailS (fs.drop 5) t)
  | 26 => strV (tailS (fs.drop 6) t)
  | 35 => strV (Lib.itoa (atoiN (fj fs 4)))
  | 36 => strV (Lib.itoa (atoiN (fj fs 5)))
  | n => zz n
section
variable {zz : Nat → Value} {s name : List UInt8} {fs : List (List UInt8)} {t : List UInt8} {m : Int}
theorem sgD_f {i : Nat} (h : i < 6) : withM (sgD zz s name fs t) m (Nat.add 11 i) = strV (fj fs i) := by
  match i, h with
  | 0, _ | 1, _ | 2, _ | 3, _ | 4, _ | 5, _ => rfl
theorem sgD_r {i : Nat} (h : i < 7) : withM (sgD zz s name fs t) m (Nat.add 20 i) = strV (tailS (fs.drop i) t) := by
  match i, h with
  | 0, _ | 1, _ | 2, _ | 3, _ | 4, _ | 5, _ | 6, _ => rfl

theorem tail_drop_len : ∀ (i : Nat) (fs : List (List UInt8)), (tailS (fs.drop i) t).length ≤ (tailS fs t).length
  | 0, _ => Nat.le_refl _
  | _ + 1, [] => Nat.le_refl _
  | i + 1, f :: fs => by
    have := tail_drop_len i fs
    show (tailS (fs.drop i) t).length ≤ (f ++ 32 :: tailS fs t).length
    rw [List.length_append, List.length_cons]; omega
theorem tail_at {i : Nat} (h : i < fs.length) : tailS (fs.drop i) t = fj fs i ++ 32 :: tailS (fs.drop (i + 1)) t := by
  rw [List.drop_eq_getElem_cons h]
  have : fj fs i = fs[i] := by unfold fj; rw [List.getD_eq_getElem?_getD, List.getElem?_eq_getElem h]; rfl
  rw [this]; rfl
theorem fj_mem {i : Nat} (h : i < fs.length) : fj fs i ∈ fs := by
  have : fj fs i = fs[i] := by unfold fj; rw [List.getD_eq_getElem?_getD, List.getElem?_eq_getElem h]; rfl
  rw [this]; exact List.getElem_mem h
theorem fj_len {i : Nat} (h : i < fs.length) : (fj fs i).length ≤ (tailS fs t).length := by
  have := tail_drop_len (t := t) i fs
  rw [tail_at h, List.length_append] at this
  omega
end

/-- A string by its fields. -/
structure FldsOK (s : List UInt8) (fs : List (List UInt8)) (t : List UInt8) : Prop where
  hb : bare fs
  ht : 32 ∉ t
  hl : (tailS fs t).length ≤ 1000000
def good (fs : List (List UInt8)) (i : Nat) : Prop := i < fs.length ∧ (fkind i = 0 → fj fs i ≠ []) ∧ (fkind i = 1 → pB (fj fs i) = true) ∧ (fkind i = 2 → numOK (fj fs i))

section
variable {zz : Nat → Value} {s name : List UInt8} {fs : List (List UInt8)} {t : List UInt8} {m : Int} (hF : FldsOK s fs t)
include hF
theorem fj_le (i : Nat) : (fj fs i).length ≤ 1000000 := by
  rcases Nat.lt_or_ge i fs.length with h | h
  · exact Nat.le_trans (fj_len h) hF.hl
  · have : fj fs i = [] := by unfold fj; rw [List.getD_eq_getElem?_getD, List.getElem?_eq_none h]; rfl
    rw [this]; simp
theorem cutK_ok {i : Nat} (hi : i < 6) (h : i < fs.length) : KRow Tryz.prog gl (withM (sgD zz s name fs t) m) (cutK i).f (cutK i).args (cutK i).img errV := by
  have e1 := sgD_f (zz := zz) (s := s) (name := name) (fs := fs) (t := t) (m := m) hi
  have e2 := sgD_r (zz := zz) (s := s) (name := name) (fs := fs) (t := t) (m := m) (show i < 7 by omega)
  have e3 := sgD_r (zz := zz) (s := s) (name := name) (fs := fs) (t := t) (m := m) (show i + 1 < 7 by omega)
  rw [show Nat.add 20 (i + 1) = Nat.add 21 i by show 20 + (i + 1) = 21 + i; omega] at e3
  have hl := tail_drop_len (t := t) i fs
  rw [tail_at h] at e2 hl
  exact KRow.ofC (withM_kM _ _) rfl rfl (va := #[strV (fj fs i ++ 32 :: tailS (fs.drop (i + 1)) t), strV [32]]) ⟨_, _, rfl, ⟨e2.symm, rfl⟩, _, _, rfl, ⟨_, rfl, rfl⟩, rfl⟩ (.inr ⟨_, rfl, rfl⟩) (u := .tuple #[strV (fj fs i), strV (tailS (fs.drop (i + 1)) t), .bool true])
    ⟨_, rfl, _, _, rfl, ⟨e1.symm, rfl⟩, _, _, rfl, ⟨e3.symm, rfl⟩, _, _, rfl, rfl, rfl⟩ (CG.e (c_cut (hF.hb _ (fj_mem h)) (by have := hF.hl; omega)))
theorem cutN_ok {i : Nat} (hi : i < 6) (h : fs.length = i) : KRow Tryz.prog gl (withM (sgD zz s name fs t) m) (cutN i).f (cutN i).args (cutN i).img errV := by
  have e2 := sgD_r (zz := zz) (s := s) (name := name) (fs := fs) (t := t) (m := m) (show i < 7 by omega)
  have hl := tail_drop_len (t := t) i fs
  have e : tailS (fs.drop i) t = t := by rw [List.drop_of_length_le (by omega)]; rfl
  rw [e] at e2 hl
  exact KRow.ofC (withM_kM _ _) rfl rfl (va := #[strV t, strV [32]]) ⟨_, _, rfl, ⟨e2.symm, rfl⟩, _, _, rfl, ⟨_, rfl, rfl⟩, rfl⟩ (.inr ⟨_, rfl, rfl⟩) (u := .tuple #[strV t, strV [], .bool false])
    ⟨_, rfl, _, _, rfl, ⟨e2.symm, rfl⟩, _, _, rfl, ⟨_, rfl, rfl⟩, _, _, rfl, rfl, rfl⟩ (CG.e (c_cut_none hF.ht (by have := hF.hl; omega)))
theorem fldK_ok {i : Nat} (hi : i < 6) {e e1 : Bool} (h1 : fkind i = 1 → e = pB (fj fs i)) (h2 : fkind i = 2 → e1 = atoiB (fj fs i)) : ∀ r ∈ fldK (fkind i) i e e1, KRow Tryz.prog gl (withM (sgD zz s name fs t) m) r.f r.args r.img errV := by
  have day : ∀ {j k : Nat} {l : List UInt8} {b : Bool}, b = pB l → withM (sgD zz s name fs t) m j = strV l → withM (sgD zz s name fs t) m k = .int .i64 (pN l) → KRow Tryz.prog gl (withM (sgD zz s name fs t) m) fParse [.sym j] ⟨.tuple [.sym k, .bool b], []⟩ errV := fun hb ej ek => by
    rw [hb]
    exact KRow.ofC (withM_kM _ _) rfl rfl (va := #[strV _]) ⟨_, _, rfl, ⟨ej.symm, rfl⟩, rfl⟩ (.inr ⟨_, rfl, rfl⟩) (u := .tuple #[.int .i64 (pN _), .bool (pB _)]) ⟨_, rfl, _, _, rfl, ⟨ek.symm, rfl⟩, _, _, rfl, rfl, rfl⟩ (c_parseE _)
  have num : ∀ {j k d : Nat} {l : List UInt8} {b : Bool}, b = atoiB l → l.length ≤ 1000000 → withM (sgD zz s name fs t) m j = strV l → withM (sgD zz s name fs t) m k = .int .i64 (atoiN l) → withM (sgD zz s name fs t) m d = strV (Lib.itoa (atoiN l)) →
      KRow Tryz.prog gl (withM (sgD zz s name fs t) m) fAtoi [.sym j] ⟨.tuple [.sym k, errA b], []⟩ errV ∧ KRow Tryz.prog gl (withM (sgD zz s name fs t) m) fItoa [.sym k] ⟨.sym d, []⟩ errV := fun {j k d l b} hb hl ej ek ed => by
    rw [hb]
    have hbd := atoiN_bounds l
    exact ⟨kr_atoi (withM_kM _ _) (l := l) rfl rfl hl ⟨ej.symm, rfl⟩ rfl ⟨ek.symm, rfl⟩,
      KRow.ofC (withM_kM _ _) rfl rfl (va := #[.int .i64 (atoiN l)]) ⟨_, _, rfl, ⟨ek.symm, rfl⟩, rfl⟩ (.inl rfl) (u := strV (Lib.itoa (atoiN l))) ⟨ed.symm, rfl⟩ (c_itoaI _ hbd.1 hbd.2)⟩
  intro r hr
  match i, hi with
  | 0, _ => cases hr
  | 1, _ =>
    have hr : r ∈ [(⟨fParse, [.sym 12], ⟨.tuple [.sym 2, .bool e], []⟩⟩ : KR)] := hr
    simp only [List.mem_cons, List.mem_nil_iff, or_false] at hr
    subst hr
    exact day (h1 rfl) rfl rfl
  | 2, _ =>
    have hr : r ∈ [(⟨fParse, [.sym 13], ⟨.tuple [.sym 3, .bool e], []⟩⟩ : KR)] := hr
    simp only [List.mem_cons, List.mem_nil_iff, or_false] at hr
    subst hr
    exact day (h1 rfl) rfl rfl
  | 3, _ =>
    have hr : r ∈ [(⟨fParse, [.sym 14], ⟨.tuple [.sym 4, .bool e], []⟩⟩ : KR)] := hr
    simp only [List.mem_cons, List.mem_nil_iff, or_false] at hr
    subst hr
    exact day (h1 rfl) rfl rfl
  | 4, _ =>
    have hr : r ∈ [(⟨fAtoi, [.sym 15], ⟨.tuple [.sym 5, errA e1], []⟩⟩ : KR), ⟨fItoa, [.sym 5], ⟨.sym 35, []⟩⟩] := hr
    simp only [List.mem_cons, List.mem_nil_iff, or_false] at hr
    have := num (j := 15) (k := 5) (d := 35) (h2 rfl) (fj_le hF _) rfl rfl rfl
    rcases hr with rfl | rfl
    · exact this.1
    · exact this.2
  | 5, _ =>
    have hr : r ∈ [(⟨fAtoi, [.sym 16], ⟨.tuple [.sym 6, errA e1], []⟩⟩ : KR), ⟨fItoa, [.sym 6], ⟨.sym 36, []⟩⟩] := hr
    simp only [List.mem_cons, List.mem_nil_iff, or_false] at hr
    have := num (j := 16) (k := 6) (d := 36) (h2 rfl) (fj_le hF _) rfl rfl rfl
    rcases hr with rfl | rfl
    · exact this.1
    · exact this.2
omit hF in
theorem fldO_ok {E : Env} {i : Nat} (hi : i < 6) {e e2 e3 : Bool} (h0 : fkind i = 0 → e = !decide (fj fs i = [])) (h2 : fkind i = 2 → e2 = decide (Lib.itoa (atoiN (fj fs i)) = fj fs i) ∧ e3 = decide (0 ≤ atoiN (fj fs i))) :
    ∀ r ∈ fldO (fkind i) i e e2 e3, RowOK E 9 (withM (sgD zz s name fs t) m) r := by
  have nj : ∀ {a b : List UInt8}, nats a = nats b ↔ a = b := fun {a b} => ⟨fun h => by
    have inj : ∀ x y : UInt8, x.toNat = y.toNat → x = y := fun x y e => UInt8.toNat_inj.1 e
    unfold nats at h
    exact List.map_inj_right inj |>.1 h, fun h => by rw [h]⟩
  intro r hr
  match i, hi with
  | 0, _ =>
    have hr : r ∈ [(⟨12, [.sym 11, .str []], .bool e⟩ : OR)] := hr
    simp only [List.mem_cons, List.mem_nil_iff, or_false] at hr
    subst hr
    refine RowOK.seq (p := nats (fj fs 0)) (q := nats []) rfl rfl (.inr ⟨rfl, ?_⟩)
    rw [h0 rfl]
    congr 1
    rw [decide_eq_decide]; exact nj.symm
  | 1, _ | 2, _ | 3, _ => cases hr
  | 4, _ =>
    have hr : r ∈ [(⟨11, [.sym 35, .sym 15], .bool e2⟩ : OR), ⟨16, [.sym 5, .int .i64 0], .bool e3⟩] := hr
    simp only [List.mem_cons, List.mem_nil_iff, or_false] at hr
    rcases hr with rfl | rfl
    · exact RowOK.seq (p := nats (Lib.itoa (atoiN (fj fs 4)))) (q := nats (fj fs 4)) rfl rfl (.inl ⟨rfl, by rw [(h2 rfl).1, decide_eq_decide]; exact nj.symm⟩)
    · exact RowOK.cmp .i64 (x := atoiN (fj fs 4)) (y := 0) rfl rfl (.inr (.inr (.inr (.inr (.inr ⟨rfl, (h2 rfl).2⟩)))))
  | 5, _ =>
    have hr : r ∈ [(⟨11, [.sym 36, .sym 16], .bool e2⟩ : OR), ⟨16, [.sym 6, .int .i64 0], .bool e3⟩] := hr
    simp only [List.mem_cons, List.mem_nil_iff, or_false] at hr
    rcases hr with rfl | rfl
    · exact RowOK.seq (p := nats (Lib.itoa (atoiN (fj fs 5)))) (q := nats (fj fs 5)) rfl rfl (.inl ⟨rfl, by rw [(h2 rfl).1, decide_eq_decide]; exact nj.symm⟩)
    · exact RowOK.cmp .i64 (x := atoiN (fj fs 5)) (y := 0) rfl rfl (.inr (.inr (.inr (.inr (.inr ⟨rfl, (h2 rfl).2⟩)))))
theorem goodK_ok : ∀ j : Nat, j ≤ 6 → (∀ i, i < j → good fs i) → ∀ r ∈ goodK j, KRow Tryz.prog gl (withM (sgD zz s name fs t) m) r.f r.args r.img errV
  | 0, _, _, r, hr => by cases hr
  | j + 1, hj, h, r, hr => by
    have hg := h j (by omega)
    have hr : r ∈ (cutK j :: fldK (fkind j) j true true) ++ goodK j := hr
    rcases List.mem_append.1 hr with hr | hr
    · rcases List.mem_cons.1 hr with rfl | hr
      · exact cutK_ok hF (by omega) hg.1
      · exact fldK_ok hF (by omega) (fun e => (hg.2.2.1 e).symm) (fun e => (hg.2.2.2 e).val.2.1.symm) r hr
    · exact goodK_ok j (by omega) (fun i hi => h i (by omega)) r hr
omit hF in
theorem goodO_ok {E : Env} : ∀ j : Nat, j ≤ 6 → (∀ i, i < j → good fs i) → ∀ r ∈ goodO j, RowOK E 9 (withM (sgD zz s name fs t) m) r
  | 0, _, _, r, hr => by cases hr
  | j + 1, hj, h, r, hr => by
    have hg := h j (by omega)
    have hr : r ∈ fldO (fkind j) j true true true ++ goodO j := hr
    rcases List.mem_append.1 hr with hr | hr
    · refine fldO_ok (by omega) (fun e => by rw [decide_eq_false (hg.2.1 e)]; rfl) (fun e => ?_) r hr
      have hn := (num_wire _).2 (hg.2.2.2 e)
      exact ⟨(decide_eq_true hn.2.1).symm, (decide_eq_true hn.2.2).symm⟩
    · exact goodO_ok j (by omega) (fun i hi => h i (by omega)) r hr
end
end
end Go.Proofs.YtnnhijfbdkokkaaGreatDoor

/-! wire.Decode at any string: its rows. -/
namespace Go.Proofs.YtnnhijfbdkokkaaGreatDoor
open Go Go.Eng Go.RowKit
noncomputable section
set_option maxRecDepth 100000

theorem first_bad {p : Nat → Prop} : ∀ n : Nat, ¬ (∀ i, i < n → p i) → ∃ j, j < n ∧ (∀ i, i < j → p i) ∧ ¬ p j
  | 0, h => absurd (fun i hi => by omega) h
  | n + 1, h => by
    by_cases hn : ∀ i, i < n → p i
    · refine ⟨n, by omega, hn, fun hp => h fun i hi => ?_⟩
      rcases Nat.lt_or_ge i n with h1 | h1
      · exact hn i h1
      · obtain rfl : i = n := by omega
        exact hp
    · obtain ⟨j, h1, h2, h3⟩ := first_bad n hn
      exact ⟨j, by omega, h2, h3⟩
theorem nats_iff {a b : List UInt8} : nats a = nats b ↔ a = b := ⟨fun h => by
    have inj : ∀ x y : UInt8, x.toNat = y.toNat → x = y := fun x y e => UInt8.toNat_inj.1 e
    unfold nats at h
    exact List.map_inj_right inj |>.1 h, fun h => by rw [h]⟩
section
variable {zz : Nat → Value} {s name : List UInt8} {fs : List (List UInt8)} {t : List UInt8} {m : Int}
theorem headO_ok {E : Env} (ht : E.ty = E0.ty) (hs : s.length ≤ 8192) : ∀ r ∈ headO, RowOK E 9 (withM (sgD zz s name fs t) m) r := by
  intro r hr
  simp only [headO, List.mem_cons, List.mem_nil_iff, or_false] at hr
  rcases hr with rfl | rfl
  · exact RowOK.len (typ9 ht) (x := nats s) rfl (by rw [nats_len]; rfl)
  · exact RowOK.cmp .i64 (x := ((s.length : Nat) : Int)) (y := 8192) rfl rfl (.inr (.inr (.inr (.inr (.inl ⟨rfl, by symm; rw [decide_eq_false_iff_not]; omega⟩)))))
theorem kr_run {o : List OR} {k : List KR} {ns : List Nat} {i : Img} (hs : s.length ≤ 8192) (run : runD o k ns i = true) (ho : ∀ E : Env, ∀ r ∈ o, RowOK E 9 (withM (sgD zz s name fs t) m) r) (hk : ∀ r ∈ k, KRow Tryz.prog gl (withM (sgD zz s name fs t) m) r.f r.args r.img errV) :
    KRow Tryz.prog gl (withM (sgD zz s name fs t) m) fDecode [.sym 0] i errV :=
  KRow.of (E := EWd (headO ++ o) k) (EnvS.askM envEe (fun r hr => by
    rcases List.mem_append.1 hr with hr | hr
    · exact headO_ok (by rfl) hs r hr
    · exact ho _ r hr) (fun r hr => by cases hr)) (memoKH_ok (E := EWd (headO ++ o) k) rfl hk) glOK run

theorem mem_lack {k j : Nat} (hk : k < 4) (hj : j < many k) : (k, j) ∈ lackL := by
  match k, hk with
  | 0, _ =>
    have hj : j < 2 := hj
    match j, hj with
    | 0, _ | 1, _ => simp [lackL]
  | 1, _ =>
    have hj : j < 1 := hj
    match j, hj with
    | 0, _ => simp [lackL]
  | 2, _ =>
    have hj : j < 6 := hj
    match j, hj with
    | 0, _ | 1, _ | 2, _ | 3, _ | 4, _ | 5, _ => simp [lackL]
  | 3, _ => exact absurd hj (Nat.not_lt_zero _)
theorem many_le {k : Nat} (hk : k < 4) : many k ≤ 6 := by
  have h6 : ∀ k, k < 4 → many k ≤ 6 := by decide
  exact h6 k hk
theorem fkind_or {i : Nat} (hi : i < 6) : fkind i = 0 ∨ fkind i = 1 ∨ fkind i = 2 := by
  have : ∀ i, i < 6 → fkind i = 0 ∨ fkind i = 1 ∨ fkind i = 2 := by decide
  exact this i hi

/-- A word that is a kind's. -/
theorem wire_dec (hF : FldsOK s fs t) (hs : s.length ≤ 8192) {k : Nat} (hk : k < 4) (hn : nats name = word k) (hb : 32 ∉ name) (e : s = tailS (name :: fs) t) :
    ((∀ i, i < many k → good fs i) → KRow Tryz.prog gl (withM (sgD zz s name fs t) m) fDecode [.sym 0] (okI k) errV) ∧ (¬ (∀ i, i < many k → good fs i) → KRow Tryz.prog gl (withM (sgD zz s name fs t) m) fDecode [.sym 0] formI errV) := by
  have m6 := many_le hk
  have hd : KRow Tryz.prog gl (withM (sgD zz s name fs t) m) (headK k).f (headK k).args (headK k).img errV :=
    KRow.ofC (withM_kM _ _) rfl rfl (va := #[strV (name ++ 32 :: tailS fs t), strV [32]]) ⟨_, _, rfl, ⟨by show strV (name ++ 32 :: tailS fs t) = strV s; rw [e]; rfl, rfl⟩, _, _, rfl, ⟨_, rfl, rfl⟩, rfl⟩ (.inr ⟨_, rfl, rfl⟩) (u := .tuple #[strV name, strV (tailS fs t), .bool true])
      ⟨_, rfl, _, _, rfl, ⟨_, rfl, hn⟩, _, _, rfl, ⟨rfl, rfl⟩, _, _, rfl, rfl, rfl⟩ (CG.e (c_cut hb (by rw [show name ++ 32 :: tailS fs t = s by rw [e]; rfl]; omega)))
  constructor
  · intro hg
    have mk4 : ∀ k, k < 4 → k ∈ four4 := by decide
    refine kr_run hs (allB_spec runDk k (mk4 k hk)) (fun E => goodO_ok (many k) m6 hg) fun r hr => ?_
    rcases List.mem_cons.1 hr with rfl | hr
    · exact hd
    · exact goodK_ok hF (many k) m6 hg r hr
  · intro hng
    obtain ⟨j, hj, hg, hbad⟩ := first_bad (many k) hng
    have j6 : j < 6 := by omega
    by_cases hlen : fs.length ≤ j
    · have hlj : fs.length = j := by
        cases j with
        | zero => omega
        | succ j => have := (hg j (by omega)).1; omega
      refine kr_run hs (allB_spec runDc (k, j) (mem_lack hk hj)) (fun E => goodO_ok j (by omega) hg) fun r hr => ?_
      rcases List.mem_cons.1 hr with rfl | hr
      · exact hd
      rcases List.mem_cons.1 hr with rfl | hr
      · exact cutN_ok hF j6 hlj
      · exact goodK_ok hF j (by omega) hg r hr
    · have hlt : j < fs.length := by omega
      have fin : ∀ {e1 e2 e3 : Bool}, (e1 && e2 && e3) = false → (fkind j = 0 → false = !decide (fj fs j = [])) → (fkind j = 1 → false = pB (fj fs j)) → (fkind j = 2 → e1 = atoiB (fj fs j)) → (fkind j = 2 → e2 = decide (Lib.itoa (atoiN (fj fs j)) = fj fs j) ∧ e3 = decide (0 ≤ atoiN (fj fs j))) →
          KRow Tryz.prog gl (withM (sgD zz s name fs t) m) fDecode [.sym 0] formI errV := by
        intro e1 e2 e3 he h0 h1 h2 h3
        refine kr_run hs (allB_spec (runDt e1 e2 e3 he) (k, j) (mem_lack hk hj)) (fun E r hr => ?_) fun r hr => ?_
        · rcases List.mem_append.1 hr with hr | hr
          · exact fldO_ok j6 h0 h3 r hr
          · exact goodO_ok j (by omega) hg r hr
        · rcases List.mem_cons.1 hr with rfl | hr
          · exact hd
          rcases List.mem_cons.1 hr with rfl | hr
          · exact cutK_ok hF j6 hlt
          rcases List.mem_append.1 hr with hr | hr
          · exact fldK_ok hF j6 h1 h2 r hr
          · exact goodK_ok hF j (by omega) hg r hr
      rcases fkind_or j6 with hc | hc | hc
      · refine fin (e1 := false) (e2 := false) (e3 := false) rfl (fun _ => ?_) (fun h => by rw [hc] at h; cases h) (fun h => by rw [hc] at h; cases h) (fun h => by rw [hc] at h; cases h)
        by_cases he : fj fs j = []
        · rw [decide_eq_true he]; rfl
        · exact absurd ⟨hlt, fun _ => he, fun h => (by rw [hc] at h; cases h), fun h => (by rw [hc] at h; cases h)⟩ hbad
      · refine fin (e1 := false) (e2 := false) (e3 := false) rfl (fun h => by rw [hc] at h; cases h) (fun _ => ?_) (fun h => by rw [hc] at h; cases h) (fun h => by rw [hc] at h; cases h)
        cases hp : pB (fj fs j) with
        | false => rfl
        | true => exact absurd ⟨hlt, fun h => (by rw [hc] at h; cases h), fun _ => hp, fun h => (by rw [hc] at h; cases h)⟩ hbad
      · refine fin (e1 := atoiB (fj fs j)) (e2 := decide (Lib.itoa (atoiN (fj fs j)) = fj fs j)) (e3 := decide (0 ≤ atoiN (fj fs j))) ?_ (fun h => by rw [hc] at h; cases h) (fun h => by rw [hc] at h; cases h) (fun _ => rfl) (fun _ => ⟨rfl, rfl⟩)
        rw [Bool.eq_false_iff]
        intro h
        simp only [Bool.and_eq_true, decide_eq_true_eq] at h
        exact hbad ⟨hlt, fun h => (by rw [hc] at h; cases h), fun h => (by rw [hc] at h; cases h), fun _ => (num_wire _).1 ⟨h.1.1, h.1.2, h.2⟩⟩
/-- A word that is no kind's. -/
theorem wire_no (hs : s.length ≤ 8192) (hn : ∀ w ∈ words4, nats name ≠ w) (hb : 32 ∉ name) (e : s = tailS (name :: fs) t) :
    KRow Tryz.prog gl (withM (sgD zz s name fs t) m) fDecode [.sym 0] formI errV := by
  refine kr_run hs runDx (fun E r hr => ?_) fun r hr => ?_
  · unfold noWord at hr
    obtain ⟨w, hw, rfl⟩ := List.mem_map.1 hr
    exact RowOK.seq (p := nats name) (q := w) rfl rfl (.inr ⟨rfl, by rw [decide_eq_false (hn w hw)]; rfl⟩)
  · simp only [List.mem_cons, List.mem_nil_iff, or_false] at hr
    subst hr
    exact KRow.ofC (withM_kM _ _) rfl rfl (va := #[strV (name ++ 32 :: tailS fs t), strV [32]]) ⟨_, _, rfl, ⟨by show strV (name ++ 32 :: tailS fs t) = strV s; rw [e]; rfl, rfl⟩, _, _, rfl, ⟨_, rfl, rfl⟩, rfl⟩ (.inr ⟨_, rfl, rfl⟩) (u := .tuple #[strV name, strV (tailS fs t), .bool true])
      ⟨_, rfl, _, _, rfl, ⟨rfl, rfl⟩, _, _, rfl, ⟨rfl, rfl⟩, _, _, rfl, rfl, rfl⟩ (CG.e (c_cut hb (by rw [show name ++ 32 :: tailS fs t = s by rw [e]; rfl]; omega)))
/-- No blank. -/
theorem wire_bare (hs : s.length ≤ 8192) (hb : 32 ∉ s) : KRow Tryz.prog gl (withM (sgD zz s name fs t) m) fDecode [.sym 0] formI errV := by
  refine kr_run hs runD0 (fun E r hr => by cases hr) fun r hr => ?_
  simp only [List.mem_cons, List.mem_nil_iff, or_false] at hr
  subst hr
  exact KRow.ofC (withM_kM _ _) rfl rfl (va := #[strV s, strV [32]]) ⟨_, _, rfl, ⟨rfl, rfl⟩, _, _, rfl, ⟨_, rfl, rfl⟩, rfl⟩ (.inr ⟨_, rfl, rfl⟩) (u := .tuple #[strV s, strV [], .bool false])
    ⟨_, rfl, _, _, rfl, ⟨rfl, rfl⟩, _, _, rfl, ⟨_, rfl, rfl⟩, _, _, rfl, rfl, rfl⟩ (CG.e (c_cut_none hb (by omega)))
end
end
end Go.Proofs.YtnnhijfbdkokkaaGreatDoor
