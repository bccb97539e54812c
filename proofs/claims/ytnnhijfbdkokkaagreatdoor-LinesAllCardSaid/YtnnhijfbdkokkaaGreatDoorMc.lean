/- lines.Text: a day in a language. No condition. -/
import Derived.Test.YtnnhijfbdkokkaaGreatDoorMb
namespace Go.Proofs.YtnnhijfbdkokkaaGreatDoor
open Go Go.Eng Go.RowKit
noncomputable section
set_option maxRecDepth 100000

abbrev fWord : Nat := 52
/-! ### A word -/
def wdV (k c v : Nat) : List Nat := match c with
  | 14 => wdA k v
  | _ => moA k v
def runW1 (V : World → Prop) (k c v : Nat) : Bool := rowRunX (({ E0 with V := V } : Env).askH 9 [] (memoKH gl [])) gl (tabX k) fWord [.ptr xN 0, .agg [.int .i64 (Int.ofNat c), .int .i64 (Int.ofNat v)], .int .i64 1] 500 (.str (wdV k c v))
theorem runW14 (V : World → Prop) : allB (fun k => allB (runW1 V k 14) w7) k4 = true := by kernel_rfl
theorem runW13 (V : World → Prop) : allB (fun k => allB (runW1 V k 13) m12) k4 = true := by kernel_rfl
theorem c_word {k : Nat} {ρt : Rho} (hk : k < 4) {p : Value} (hp : PtrX k ρt p) {c v : Nat} (h : (c = 14 ∧ v < 7) ∨ (c = 13 ∧ v < 12)) : CT k ρt fWord #[p, .agg #[.int .i64 (c : Int), .int .i64 (v : Int)], .int .i64 1] (strV (toB (wdV k c v))) := by
  have run : runW1 (tabW k ρt) k c v = true := by
    rcases h with ⟨rfl, h⟩ | ⟨rfl, h⟩
    · exact allB_spec (allB_spec (runW14 _) k (mem_k4 hk)) v (mem_w7 h)
    · exact allB_spec (allB_spec (runW13 _) k (mem_k4 hk)) v (mem_m12 h)
  have hn : nats (toB (wdV k c v)) = wdV k c v := by
    rcases h with ⟨rfl, h⟩ | ⟨rfl, h⟩
    · exact nats_toB (wd_ok7 hk h)
    · exact nats_toB (mo_ok12 hk h)
  exact CT.script hk (σ := fun _ => .nilIface) (orows := []) (krows := []) (fun m r hr => by cases hr) (fun m r hr => by cases hr) run (fun m ρ hρ => ⟨_, _, rfl, hp.vr hρ, _, _, rfl, ⟨_, rfl, _, _, rfl, rfl, _, _, rfl, rfl, rfl⟩, _, _, rfl, rfl, rfl⟩) (fun m => ⟨_, rfl, hn⟩) rfl

/-! ### A day. The symbols: 0 the day, 1 its year, 2 its day of the month, 11 its month, 3, 4 their digits, 10, 12, 13 the weekday and its word, 14, 16 the month's; 15, 5 .. 9 the text so far; 50 the table. -/
def sgLx (p : Value) (k n y mm d : Nat) : Nat → Value
  | 0 => .int .i64 (n : Int)
  | 1 => .int .i64 (y : Int)
  | 2 => .int .i64 (d : Int)
  | 3 => strV (Lib.decDigits d)
  | 4 => strV (Lib.decDigits y)
  | 15 => strV (toB (wdA k ((n - 1) % 7)) ++ [32])
  | 5 => strV (toB (wdA k ((n - 1) % 7)) ++ 32 :: Lib.decDigits d)
  | 6 => strV (toB (wdA k ((n - 1) % 7)) ++ 32 :: (Lib.decDigits d ++ [32]))
  | 7 => strV (toB (wdA k ((n - 1) % 7)) ++ 32 :: (Lib.decDigits d ++ 32 :: toB (moA k (mm - 1))))
  | 8 => strV (toB (wdA k ((n - 1) % 7)) ++ 32 :: (Lib.decDigits d ++ 32 :: (toB (moA k (mm - 1)) ++ [32])))
  | 9 => strV (lineT k n y mm d)
  | 10 => .int .i64 ((n : Int) - 1)
  | 11 => .int .i64 (mm : Int)
  | 12 => .int .i64 (((n - 1) % 7 : Nat) : Int)
  | 13 => strV (toB (wdA k ((n - 1) % 7)))
  | 14 => .int .i64 ((mm - 1 : Nat) : Int)
  | 16 => strV (toB (moA k (mm - 1)))
  | 50 => p
  | _ => .nilIface
def orVa (a b : Bool) : List OR := [⟨16, [.sym 0, .int .i64 1], .bool a⟩, ⟨14, [.sym 0, .int .i64 3652059], .bool b⟩]
def orLx : List OR := orVa true true ++ [⟨1, [.sym 0, .int .i64 1], .sym 10⟩, ⟨4, [.sym 10, .int .i64 7], .sym 12⟩, ⟨1, [.sym 11, .int .i64 1], .sym 14⟩,
  ⟨0, [.sym 13, .str [32]], .sym 15⟩, ⟨0, [.sym 15, .sym 3], .sym 5⟩, ⟨0, [.sym 5, .str [32]], .sym 6⟩, ⟨0, [.sym 6, .sym 16], .sym 7⟩, ⟨0, [.sym 7, .str [32]], .sym 8⟩, ⟨0, [.sym 8, .sym 4], .sym 9⟩]
def krLx : List KR := [⟨fDate, [.sym 0], ⟨.tuple [.sym 1, .sym 11, .sym 2], []⟩⟩, ⟨fItoa, [.sym 2], ⟨.sym 3, []⟩⟩, ⟨fItoa, [.sym 1], ⟨.sym 4, []⟩⟩,
  ⟨fWord, [.sym 50, .agg [.int .i64 14, .sym 12], .int .i64 1], ⟨.sym 13, []⟩⟩, ⟨fWord, [.sym 50, .agg [.int .i64 13, .sym 14], .int .i64 1], ⟨.sym 16, []⟩⟩]
def ELx (V : World → Prop) (o : List OR) (k : List KR) : Env := ({ E0 with V := V } : Env).askM 9 o [] (memoKH gl k)
theorem runLx (V : World → Prop) : rowRunG (ELx V orLx krLx) gl fLText [.sym 50, .sym 0] 2000 (.sym 9) = true := by kernel_rfl
theorem runLnn (V : World → Prop) : ∀ a b : Bool, (a && b) = false → rowRunG (ELx V (orVa a b) []) gl fLText [.sym 50, .sym 0] 300 (.str []) = true := by
  intro a b h
  cases a <;> cases b <;> first | (cases h; done) | kernel_rfl

theorem toB_nats {l : List Nat} (h : okW l = true) : nats (toB l) = l := nats_toB h
theorem cat_row {E : Env} {t : TypeId} {σ : Nat → Value} {a b v : AV} {p q : List UInt8} (ha : conc σ a = .str (nats p)) (hb : conc σ b = .str (nats q)) (hv : conc σ v = .str (nats (p ++ q))) (hl : (p ++ q).length < 1000000) : RowOK E t σ ⟨0, [a, b], v⟩ :=
  RowOK.cat (p := nats p) (q := nats q) (r := nats (p ++ q)) ha hb hv (nats_append p q).symm (by rw [nats_len]; omega)
theorem c_ltext {k : Nat} {ρt : Rho} (hk : k < 4) {p : Value} (hp : PtrX k ρt p) {n y mm d : Nat} (hd : Dated n y mm d) : CT k ρt fLText #[p, .int .i64 (n : Int)] (strV (lineF k n)) := by
  have hr0 := hd.range
  have hw : (n - 1) % 7 < 7 := Nat.mod_lt _ (by omega)
  have hm : mm - 1 < 12 := by have := hd.m1; have := hd.m2; omega
  have l1 := toB_len (wd_ok7 hk hw)
  have l2 := toB_len (mo_ok12 hk hm)
  have l3 : (Lib.decDigits d).length ≤ 2 := by rw [Lib.decDigits_length]; exact nDigits_le 1 d (by have := hd.d31; omega)
  have l4 : (Lib.decDigits y).length ≤ 4 := by rw [Lib.decDigits_length]; exact nDigits_le 3 y (by have := hd.y2; omega)
  have hp1 : p.oneCell' = true := by obtain ⟨L, _, rfl, _⟩ := hp; rfl
  rw [lineF_eq hd]
  refine CallsV.scriptM (E := Et k ρt) (envEt k ρt) rfl (σ := sgLx p k n y mm d) (orows := orLx) (mrows := []) (krows := krLx) (fun m r hr => ?_) (fun m r hr => by cases hr) (fun m r hr => ?_) (runLx _) (fun m => ⟨_, _, rfl, ⟨rfl, hp1⟩, _, _, rfl, ⟨rfl, rfl⟩, rfl⟩) (fun m => ⟨rfl, rfl⟩) rfl (fun w h => tabW_all k ρt w h)
  · unfold orLx at hr
    rcases List.mem_append.1 hr with hr | hr
    · simp only [orVa, List.mem_cons, List.mem_nil_iff, or_false] at hr
      rcases hr with rfl | rfl
      · exact RowOK.cmp .i64 (x := (n : Int)) (y := 1) rfl rfl (.inr (.inr (.inr (.inr (.inr ⟨rfl, by symm; rw [decide_eq_true_eq]; omega⟩)))))
      · exact RowOK.cmp .i64 (x := (n : Int)) (y := 3652059) rfl rfl (.inr (.inr (.inr (.inl ⟨rfl, by symm; rw [decide_eq_true_eq]; omega⟩))))
    · simp only [List.mem_cons, List.mem_nil_iff, or_false] at hr
      rcases hr with rfl | rfl | rfl | rfl | rfl | rfl | rfl | rfl | rfl
      · exact RowOK.sub64 (x := (n : Int)) (y := 1) rfl rfl rfl rfl (by omega) (by omega)
      · refine RowOK.rem .i64 (x := (n : Int) - 1) (y := 7) (z := (((n - 1) % 7 : Nat) : Int)) rfl rfl rfl (by decide) ?_
        have : (n : Int) - 1 = ((n - 1 : Nat) : Int) := by omega
        rw [this]
        exact tmodN (n - 1) 7
      · exact RowOK.sub64 (x := (mm : Int)) (y := 1) (z := ((mm - 1 : Nat) : Int)) rfl rfl rfl (by have := hd.m1; omega) (by omega) (by omega)
      · exact cat_row (p := toB (wdA k ((n - 1) % 7))) (q := [32]) rfl rfl rfl (by simp only [List.length_append, List.length_singleton]; omega)
      · refine cat_row (p := toB (wdA k ((n - 1) % 7)) ++ [32]) (q := Lib.decDigits d) rfl rfl ?_ (by simp only [List.length_append, List.length_singleton]; omega)
        rw [List.append_assoc]; rfl
      · refine cat_row (p := toB (wdA k ((n - 1) % 7)) ++ 32 :: Lib.decDigits d) (q := [32]) rfl rfl ?_ (by simp only [List.length_append, List.length_cons, List.length_nil]; omega)
        rw [List.append_assoc, List.cons_append]; rfl
      · refine cat_row (p := toB (wdA k ((n - 1) % 7)) ++ 32 :: (Lib.decDigits d ++ [32])) (q := toB (moA k (mm - 1))) rfl rfl ?_ (by simp only [List.length_append, List.length_cons, List.length_nil]; omega)
        rw [List.append_assoc, List.cons_append, List.append_assoc]; rfl
      · refine cat_row (p := toB (wdA k ((n - 1) % 7)) ++ 32 :: (Lib.decDigits d ++ 32 :: toB (moA k (mm - 1)))) (q := [32]) rfl rfl ?_ (by simp only [List.length_append, List.length_cons, List.length_nil]; omega)
        rw [List.append_assoc, List.cons_append, List.append_assoc, List.cons_append]; rfl
      · refine cat_row (p := toB (wdA k ((n - 1) % 7)) ++ 32 :: (Lib.decDigits d ++ 32 :: (toB (moA k (mm - 1)) ++ [32]))) (q := Lib.decDigits y) rfl rfl ?_ (by simp only [List.length_append, List.length_cons, List.length_nil]; omega)
        rw [List.append_assoc, List.cons_append, List.append_assoc, List.cons_append, List.append_assoc]; rfl
  · simp only [krLx, List.mem_cons, List.mem_nil_iff, or_false] at hr
    rcases hr with rfl | rfl | rfl | rfl | rfl
    · exact KRow.ofC (withM_kM _ _) rfl rfl (va := #[.int .i64 (n : Int)]) ⟨_, _, rfl, ⟨rfl, rfl⟩, rfl⟩ (.inr ⟨_, rfl, rfl⟩) (u := .tuple #[.int .i64 (y : Int), .int .i64 (mm : Int), .int .i64 (d : Int)]) ⟨_, rfl, _, _, rfl, ⟨rfl, rfl⟩, _, _, rfl, ⟨rfl, rfl⟩, _, _, rfl, ⟨rfl, rfl⟩, rfl⟩ (CallsV.more hd.c.all fun _ _ => True.intro)
    · exact KRow.ofC (withM_kM _ _) rfl rfl (va := #[.int .i64 (d : Int)]) ⟨_, _, rfl, ⟨rfl, rfl⟩, rfl⟩ (.inl rfl) (u := strV (Lib.decDigits d)) ⟨rfl, rfl⟩ (CallsV.more (c_itoa d (by have := hd.d31; omega)).g fun _ h => h.2.1)
    · exact KRow.ofC (withM_kM _ _) rfl rfl (va := #[.int .i64 (y : Int)]) ⟨_, _, rfl, ⟨rfl, rfl⟩, rfl⟩ (.inl rfl) (u := strV (Lib.decDigits y)) ⟨rfl, rfl⟩ (CallsV.more (c_itoa y (by have := hd.y2; omega)).g fun _ h => h.2.1)
    · exact KRow.ofC (withM_kM _ _) rfl rfl (va := #[p, .agg #[.int .i64 14, .int .i64 (((n - 1) % 7 : Nat) : Int)], .int .i64 1]) ⟨_, _, rfl, ⟨rfl, hp1⟩, _, _, rfl, ⟨_, rfl, _, _, rfl, rfl, _, _, rfl, ⟨rfl, rfl⟩, rfl⟩, _, _, rfl, rfl, rfl⟩ (.inl rfl) (u := strV (toB (wdA k ((n - 1) % 7)))) ⟨rfl, rfl⟩ (c_word hk hp (c := 14) (.inl ⟨rfl, hw⟩))
    · exact KRow.ofC (withM_kM _ _) rfl rfl (va := #[p, .agg #[.int .i64 13, .int .i64 ((mm - 1 : Nat) : Int)], .int .i64 1]) ⟨_, _, rfl, ⟨rfl, hp1⟩, _, _, rfl, ⟨_, rfl, _, _, rfl, rfl, _, _, rfl, ⟨rfl, rfl⟩, rfl⟩, _, _, rfl, rfl, rfl⟩ (.inl rfl) (u := strV (toB (moA k (mm - 1)))) ⟨rfl, rfl⟩ (c_word hk hp (c := 13) (.inr ⟨rfl, hm⟩))
/-- A day's text, whatever the number. -/
theorem c_ltextI {k : Nat} {ρt : Rho} (hk : k < 4) {p : Value} (hp : PtrX k ρt p) (z : Int) : CT k ρt fLText #[p, .int .i64 z] (strV (lineI k z)) := by
  by_cases h : 1 ≤ z ∧ z ≤ 3652059
  · obtain ⟨n, rfl⟩ : ∃ n : Nat, z = n := ⟨z.toNat, by omega⟩
    obtain ⟨y, mm, d, hd⟩ := dated n (by omega) (by omega)
    rw [lineI_nat (by omega) (by omega)]
    exact c_ltext hk hp hd
  · have e : lineI k z = [] := by unfold lineI; rw [if_neg h]
    rw [e]
    have hp1 : p.oneCell' = true := by obtain ⟨L, _, rfl, _⟩ := hp; rfl
    have hab : (decide (1 ≤ z) && decide (z ≤ 3652059)) = false := by
      rw [Bool.and_eq_false_iff, decide_eq_false_iff_not, decide_eq_false_iff_not]; omega
    refine CallsV.scriptM (E := Et k ρt) (envEt k ρt) rfl (σ := fun i => match i with | 0 => .int .i64 z | 50 => p | _ => .nilIface) (orows := orVa (decide (1 ≤ z)) (decide (z ≤ 3652059))) (mrows := []) (krows := []) (fun m r hr => ?_) (fun m r hr => by cases hr) (fun m r hr => by cases hr) (runLnn _ _ _ hab) (fun m => ⟨_, _, rfl, ⟨rfl, hp1⟩, _, _, rfl, ⟨rfl, rfl⟩, rfl⟩) (fun m => ⟨_, rfl, rfl⟩) rfl (fun w h => tabW_all k ρt w h)
    simp only [orVa, List.mem_cons, List.mem_nil_iff, or_false] at hr
    rcases hr with rfl | rfl
    · exact RowOK.cmp .i64 (x := z) (y := 1) rfl rfl (.inr (.inr (.inr (.inr (.inr ⟨rfl, rfl⟩)))))
    · exact RowOK.cmp .i64 (x := z) (y := 3652059) rfl rfl (.inr (.inr (.inr (.inl ⟨rfl, rfl⟩))))
end
end Go.Proofs.YtnnhijfbdkokkaaGreatDoor
