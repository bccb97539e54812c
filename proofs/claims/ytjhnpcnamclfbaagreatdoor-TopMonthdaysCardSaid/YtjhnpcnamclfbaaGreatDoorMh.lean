/- lines.Text: a day in a language. lines.Read: the runs on symbols, cut at its call of Split and at its inner loop. lines.Read: any text: the day whose text it is; none. The language's table, called for: a law's way to behind that call. No condition. -/
import Derived.Test.YtjhnpcnamclfbaaGreatDoorMb
/-! lines.Text: a day in a language. -/
namespace Go.Proofs.YtjhnpcnamclfbaaGreatDoor
open Go Go.Eng Go.RowKit
noncomputable section
set_option maxRecDepth 100000

abbrev fWord : Nat := 57
/-! ### A word -/
def wdV (k c v : Nat) : List Nat := match c with
  | 14 => wdA k v
  | _ => moA k v
def runW1 (V : World → Prop) (k c v : Nat) : Bool := rowRunX (({ E0 with V := V } : Env).askH 9 [] (memoKH gl [])) gl (tabX k) fWord [.ptr xN 0, .agg [.int .i64 (Int.ofNat c), .int .i64 (Int.ofNat v)], .int .i64 1] 500 (.str (wdV k c v))
theorem runW14 (V : World → Prop) : allB (fun k => allB (runW1 V k 14) w7) k4 = true := by kernel_rfl
theorem runW13 (V : World → Prop) : allB (fun k => allB (runW1 V k 13) m12) k4 = true := by kernel_rfl
theorem c_word {k : Nat} {ρt : Rho} (hk : k < 4) {p : Value} (hp : PtrX k ρt p) {c v : Nat} (h : (c = 14 ∧ v < 7) ∨ (c = 13 ∧ v < 12)) : CT k ρt fWord #[p, .agg #[.int .i64 (c : Int), .int .i64 (v : Int)], .int .i64 1] (strV (toB (wdV k c v))) := by
  have run : runW1 (tabW k ρt) k c v = true := by
    rcases h with ⟨rfl, h⟩ | ⟨rfl, h⟩
    · exact allB_spec (allB_spec (runW14 _) k (mem_k4 hk)) v (mem_w7 h)
    · exact allB_spec (allB_spec (runW13 _) k (mem_k4 hk)) v (mem_m12 h)
  have hn : nats (toB (wdV k c v)) = wdV k c v := by
    rcases h with ⟨rfl, h⟩ | ⟨rfl, h⟩
    · exact nats_toB (wd_ok7 hk h)
    · exact nats_toB (mo_ok12 hk h)
  exact CT.script hk (σ := fun _ => .nilIface) (orows := []) (krows := []) (fun m r hr => by cases hr) (fun m r hr => by cases hr) run (fun m ρ hρ => ⟨_, _, rfl, hp.vr hρ, _, _, rfl, ⟨_, rfl, _, _, rfl, rfl, _, _, rfl, rfl, rfl⟩, _, _, rfl, rfl, rfl⟩) (fun m => ⟨_, rfl, hn⟩) rfl

/-! ### A day. The symbols: 0 the day, 1 its year, 2 its day of the month, 11 its month, 3, 4 their digits, 10, 12, 13 the weekday and its word, 14, 16 the month's; 15, 5 .. 9 the text so far; 50 the table. -/
def sgLx (p : Value) (k n y mm d : Nat) : Nat → Value
  | 0 => .int .i64 (n : Int)
  | 1 => .int .i64 (y : Int)
  | 2 => .int .i64 (d : Int)
  | 3 => strV (Lib.decDigits d)
  | 4 => strV (Lib.decDigits y)
  | 15 => strV (toB (wdA k ((n - 1) % 7)) ++ [32])
  | 5 => strV (toB (wdA k ((n - 1) % 7)) ++ 32 :: Lib.decDigits d)
  | 6 => strV (toB (wdA k ((n - 1) % 7)) ++ 32 :: (Lib.decDigits d ++ [32]))
  | 7 => strV (toB (wdA k ((n - 1) % 7)) ++ 32 :: (Lib.decDigits d ++ 32 :: toB (moA k (mm - 1))))
  | 8 => strV (toB (wdA k ((n - 1) % 7)) ++ 32 :: (Lib.decDigits d ++ 32 :: (toB (moA k (mm - 1)) ++ [32])))
  | 9 => strV (lineT k n y mm d)
  | 10 => .int .i64 ((n : Int) - 1)
  | 11 => .int .i64 (mm : Int)
  | 12 => .int .i64 (((n - 1) % 7 : Nat) : Int)
  | 13 => strV (toB (wdA k ((n - 1) % 7)))
  | 14 => .int .i64 ((mm - 1 : Nat) : Int)
  | 16 => strV (toB (moA k (mm - 1)))
  | 50 => p
  | _ => .nilIface
def orVa (a b : Bool) : List OR := [⟨16, [.sym 0, .int .i64 1], .bool a⟩, ⟨14, [.sym 0, .int .i64 3652059], .bool b⟩]
def orLx : List OR := orVa true true ++ [⟨1, [.sym 0, .int .i64 1], .sym 10⟩, ⟨4, [.sym 10, .int .i64 7], .sym 12⟩, ⟨1, [.sym 11, .int .i64 1], .sym 14⟩,
  ⟨0, [.sym 13, .str [32]], .sym 15⟩, ⟨0, [.sym 15, .sym 3], .sym 5⟩, ⟨0, [.sym 5, .str [32]], .sym 6⟩, ⟨0, [.sym 6, .sym 16], .sym 7⟩, ⟨0, [.sym 7, .str [32]], .sym 8⟩, ⟨0, [.sym 8, .sym 4], .sym 9⟩]
def krLx : List KR := [⟨fDate, [.sym 0], ⟨.tuple [.sym 1, .sym 11, .sym 2], []⟩⟩, ⟨fItoa, [.sym 2], ⟨.sym 3, []⟩⟩, ⟨fItoa, [.sym 1], ⟨.sym 4, []⟩⟩,
  ⟨fWord, [.sym 50, .agg [.int .i64 14, .sym 12], .int .i64 1], ⟨.sym 13, []⟩⟩, ⟨fWord, [.sym 50, .agg [.int .i64 13, .sym 14], .int .i64 1], ⟨.sym 16, []⟩⟩]
def ELx (V : World → Prop) (o : List OR) (k : List KR) : Env := ({ E0 with V := V } : Env).askM 9 o [] (memoKH gl k)
theorem runLx (V : World → Prop) : rowRunG (ELx V orLx krLx) gl fLText [.sym 50, .sym 0] 2000 (.sym 9) = true := by kernel_rfl
theorem runLnn (V : World → Prop) : ∀ a b : Bool, (a && b) = false → rowRunG (ELx V (orVa a b) []) gl fLText [.sym 50, .sym 0] 300 (.str []) = true := by
  intro a b h
  cases a <;> cases b <;> first | (cases h; done) | kernel_rfl

theorem cat_row {E : Env} {t : TypeId} {σ : Nat → Value} {a b v : AV} {p q : List UInt8} (ha : conc σ a = .str (nats p)) (hb : conc σ b = .str (nats q)) (hv : conc σ v = .str (nats (p ++ q))) (hl : (p ++ q).length < 1000000) : RowOK E t σ ⟨0, [a, b], v⟩ :=
  RowOK.cat (p := nats p) (q := nats q) (r := nats (p ++ q)) ha hb hv (nats_append p q).symm (by rw [nats_len]; omega)
theorem c_ltext {k : Nat} {ρt : Rho} (hk : k < 4) {p : Value} (hp : PtrX k ρt p) {n y mm d : Nat} (hd : Dated n y mm d) : CT k ρt fLText #[p, .int .i64 (n : Int)] (strV (lineF k n)) := by
  have hr0 := hd.range
  have hw : (n - 1) % 7 < 7 := Nat.mod_lt _ (by omega)
  have hm : mm - 1 < 12 := by have := hd.m1; have := hd.m2; omega
  have l1 := toB_len (wd_ok7 hk hw)
  have l2 := toB_len (mo_ok12 hk hm)
  have l3 : (Lib.decDigits d).length ≤ 2 := by rw [Lib.decDigits_length]; exact nDigits_le 1 d (by have := hd.d31; omega)
  have l4 : (Lib.decDigits y).length ≤ 4 := by rw [Lib.decDigits_length]; exact nDigits_le 3 y (by have := hd.y2; omega)
  have hp1 : p.oneCell' = true := by obtain ⟨L, _, rfl, _⟩ := hp; rfl
  rw [lineF_eq hd]
  refine CallsV.scriptM (E := Et k ρt) (envEt k ρt) rfl (σ := sgLx p k n y mm d) (orows := orLx) (mrows := []) (krows := krLx) (fun m r hr => ?_) (fun m r hr => by cases hr) (fun m r hr => ?_) (runLx _) (fun m => ⟨_, _, rfl, ⟨rfl, hp1⟩, _, _, rfl, ⟨rfl, rfl⟩, rfl⟩) (fun m => ⟨rfl, rfl⟩) rfl (fun w h => tabW_all k ρt w h)
  · unfold orLx at hr
    rcases List.mem_append.1 hr with hr | hr
    · simp only [orVa, List.mem_cons, List.mem_nil_iff, or_false] at hr
      rcases hr with rfl | rfl
      · exact RowOK.cmp .i64 (x := (n : Int)) (y := 1) rfl rfl (.inr (.inr (.inr (.inr (.inr ⟨rfl, by symm; rw [decide_eq_true_eq]; omega⟩)))))
      · exact RowOK.cmp .i64 (x := (n : Int)) (y := 3652059) rfl rfl (.inr (.inr (.inr (.inl ⟨rfl, by symm; rw [decide_eq_true_eq]; omega⟩))))
    · simp only [List.mem_cons, List.mem_nil_iff, or_false] at hr
      rcases hr with rfl | rfl | rfl | rfl | rfl | rfl | rfl | rfl | rfl
      · exact RowOK.sub64 (x := (n : Int)) (y := 1) rfl rfl rfl rfl (by omega) (by omega)
      · refine RowOK.rem .i64 (x := (n : Int) - 1) (y := 7) (z := (((n - 1) % 7 : Nat) : Int)) rfl rfl rfl (by decide) ?_
        have : (n : Int) - 1 = ((n - 1 : Nat) : Int) := by omega
        rw [this]
        exact tmodN (n - 1) 7
      · exact RowOK.sub64 (x := (mm : Int)) (y := 1) (z := ((mm - 1 : Nat) : Int)) rfl rfl rfl (by have := hd.m1; omega) (by omega) (by omega)
      · exact cat_row (p := toB (wdA k ((n - 1) % 7))) (q := [32]) rfl rfl rfl (by simp only [List.length_append, List.length_singleton]; omega)
      · refine cat_row (p := toB (wdA k ((n - 1) % 7)) ++ [32]) (q := Lib.decDigits d) rfl rfl ?_ (by simp only [List.length_append, List.length_singleton]; omega)
        rw [List.append_assoc]; rfl
      · refine cat_row (p := toB (wdA k ((n - 1) % 7)) ++ 32 :: Lib.decDigits d) (q := [32]) rfl rfl ?_ (by simp only [List.length_append, List.length_cons, List.length_nil]; omega)
        rw [List.append_assoc, List.cons_append]; rfl
      · refine cat_row (p := toB (wdA k ((n - 1) % 7)) ++ 32 :: (Lib.decDigits d ++ [32])) (q := toB (moA k (mm - 1))) rfl rfl ?_ (by simp only [List.length_append, List.length_cons, List.length_nil]; omega)
        rw [List.append_assoc, List.cons_append, List.append_assoc]; rfl
      · refine cat_row (p := toB (wdA k ((n - 1) % 7)) ++ 32 :: (Lib.decDigits d ++ 32 :: toB (moA k (mm - 1)))) (q := [32]) rfl rfl ?_ (by simp only [List.length_append, List.length_cons, List.length_nil]; omega)
        rw [List.append_assoc, List.cons_append, List.append_assoc, List.cons_append]; rfl
      · refine cat_row (p := toB (wdA k ((n - 1) % 7)) ++ 32 :: (Lib.decDigits d ++ 32 :: (toB (moA k (mm - 1)) ++ [32]))) (q := Lib.decDigits y) rfl rfl ?_ (by simp only [List.length_append, List.length_cons, List.length_nil]; omega)
        rw [List.append_assoc, List.cons_append, List.append_assoc, List.cons_append, List.append_assoc]; rfl
  · simp only [krLx, List.mem_cons, List.mem_nil_iff, or_false] at hr
    rcases hr with rfl | rfl | rfl | rfl | rfl
    · exact KRow.ofC (withM_kM _ _) rfl rfl (va := #[.int .i64 (n : Int)]) ⟨_, _, rfl, ⟨rfl, rfl⟩, rfl⟩ (.inr ⟨_, rfl, rfl⟩) (u := .tuple #[.int .i64 (y : Int), .int .i64 (mm : Int), .int .i64 (d : Int)]) ⟨_, rfl, _, _, rfl, ⟨rfl, rfl⟩, _, _, rfl, ⟨rfl, rfl⟩, _, _, rfl, ⟨rfl, rfl⟩, rfl⟩ (CallsV.more hd.c.all fun _ _ => True.intro)
    · exact KRow.ofC (withM_kM _ _) rfl rfl (va := #[.int .i64 (d : Int)]) ⟨_, _, rfl, ⟨rfl, rfl⟩, rfl⟩ (.inl rfl) (u := strV (Lib.decDigits d)) ⟨rfl, rfl⟩ (CallsV.more (c_itoa d (by have := hd.d31; omega)).g fun _ h => h.2.1)
    · exact KRow.ofC (withM_kM _ _) rfl rfl (va := #[.int .i64 (y : Int)]) ⟨_, _, rfl, ⟨rfl, rfl⟩, rfl⟩ (.inl rfl) (u := strV (Lib.decDigits y)) ⟨rfl, rfl⟩ (CallsV.more (c_itoa y (by have := hd.y2; omega)).g fun _ h => h.2.1)
    · exact KRow.ofC (withM_kM _ _) rfl rfl (va := #[p, .agg #[.int .i64 14, .int .i64 (((n - 1) % 7 : Nat) : Int)], .int .i64 1]) ⟨_, _, rfl, ⟨rfl, hp1⟩, _, _, rfl, ⟨_, rfl, _, _, rfl, rfl, _, _, rfl, ⟨rfl, rfl⟩, rfl⟩, _, _, rfl, rfl, rfl⟩ (.inl rfl) (u := strV (toB (wdA k ((n - 1) % 7)))) ⟨rfl, rfl⟩ (c_word hk hp (c := 14) (.inl ⟨rfl, hw⟩))
    · exact KRow.ofC (withM_kM _ _) rfl rfl (va := #[p, .agg #[.int .i64 13, .int .i64 ((mm - 1 : Nat) : Int)], .int .i64 1]) ⟨_, _, rfl, ⟨rfl, hp1⟩, _, _, rfl, ⟨_, rfl, _, _, rfl, rfl, _, _, rfl, ⟨rfl, rfl⟩, rfl⟩, _, _, rfl, rfl, rfl⟩ (.inl rfl) (u := strV (toB (moA k (mm - 1)))) ⟨rfl, rfl⟩ (c_word hk hp (c := 13) (.inr ⟨rfl, hm⟩))
/-- A day's text, whatever the number. -/
theorem c_ltextI {k : Nat} {ρt : Rho} (hk : k < 4) {p : Value} (hp : PtrX k ρt p) (z : Int) : CT k ρt fLText #[p, .int .i64 z] (strV (lineI k z)) := by
  by_cases h : 1 ≤ z ∧ z ≤ 3652059
  · obtain ⟨n, rfl⟩ : ∃ n : Nat, z = n := ⟨z.toNat, by omega⟩
    obtain ⟨y, mm, d, hd⟩ := dated n (by omega) (by omega)
    rw [lineI_nat (by omega) (by omega)]
    exact c_ltext hk hp hd
  · have e : lineI k z = [] := by unfold lineI; rw [if_neg h]
    rw [e]
    have hp1 : p.oneCell' = true := by obtain ⟨L, _, rfl, _⟩ := hp; rfl
    have hab : (decide (1 ≤ z) && decide (z ≤ 3652059)) = false := by
      rw [Bool.and_eq_false_iff, decide_eq_false_iff_not, decide_eq_false_iff_not]; omega
    refine CallsV.scriptM (E := Et k ρt) (envEt k ρt) rfl (σ := fun i => match i with | 0 => .int .i64 z | 50 => p | _ => .nilIface) (orows := orVa (decide (1 ≤ z)) (decide (z ≤ 3652059))) (mrows := []) (krows := []) (fun m r hr => ?_) (fun m r hr => by cases hr) (fun m r hr => by cases hr) (runLnn _ _ _ hab) (fun m => ⟨_, _, rfl, ⟨rfl, hp1⟩, _, _, rfl, ⟨rfl, rfl⟩, rfl⟩) (fun m => ⟨_, rfl, rfl⟩) rfl (fun w h => tabW_all k ρt w h)
    simp only [orVa, List.mem_cons, List.mem_nil_iff, or_false] at hr
    rcases hr with rfl | rfl
    · exact RowOK.cmp .i64 (x := z) (y := 1) rfl rfl (.inr (.inr (.inr (.inr (.inr ⟨rfl, rfl⟩)))))
    · exact RowOK.cmp .i64 (x := z) (y := 3652059) rfl rfl (.inr (.inr (.inr (.inl ⟨rfl, rfl⟩))))
end
end Go.Proofs.YtjhnpcnamclfbaaGreatDoor

/-! lines.Read: the runs on symbols, cut at its call of Split and at its inner loop. -/
namespace Go.Proofs.YtjhnpcnamclfbaaGreatDoor
open Go Go.Eng Go.RowKit
noncomputable section
set_option maxRecDepth 100000

/-! The symbols: 0 the text, 50 the table, 60 the words, 61 how many, 62 the last one's place, 9 the last one, 1 the year, 20, 21 month and day less one, 22, 23 and as they are, 24 the day, 25 its text. -/
def ER (V : World → Prop) (o mr : List OR) (k : List KR) : Env := ({ E0 with V := V } : Env).askM 9 o mr (memoKH gl k)
def mAt : Nat := Nat.add (Nat.mul 8 tStrs) 2
def mLen : Nat := Nat.add (Nat.mul 8 tStrs) 3
def mLd : Nat := Nat.add (Nat.mul 8 tStr) 1
def mRc (V : World → Prop) : Option AM := bnd (startM (ER V [] [] []) (stOf gl) fLRead [.sym 50, .sym 0]) (runS (ER V [] [] []) (atCall fSplit) 1000)
def mRb (V : World → Prop) : Option AM := bnd (mRc V) behind
def todoOf (o : Option AM) : Option (List AItem) := match o with
  | some m => some m.fr.todo
  | none => none
def frOf (o : Option AM) : Option AFr := match o with
  | some m => some m.fr
  | none => none
def isB (o : Option AM) (p : AM → Bool) : Bool := match o with
  | some m => p m
  | none => false
def tdO (o : Option (List AItem)) : List AItem := match o with
  | some t => t
  | none => []
def tdR1 : List AItem := tdO (todoOf (mRb fun _ => True))
def keepR1 : List (Nat × AV) := [(0, .sym 50), (1, .sym 0), (14, .sym 60)]
def thR1 : List (Nat × AV) := [(50, .sym 50), (0, .sym 0)]
theorem cR_fr (V : World → Prop) : enterA (ER V [] [] []) fSplit [.sym 0, .str [32]] .normal = frOf (mRc V) := by kernel_rfl
theorem cR_dst (V : World → Prop) : isB (mRc V) (fun m => dstIs m 14) = true := by kernel_rfl
theorem cR_td (V : World → Prop) : todoOf (mRb V) = some tdR1 := by kernel_rfl
theorem cR_gen (V : World → Prop) : isB (mRb V) (genOK gl [] fLRead 56 keepR1 [] thR1 [] [14]) = true := by kernel_rfl
def pR1 : AM := patM gl [] fLRead 56 tdR1 keepR1 []
def mrR : List OR := [⟨mLen, [.sym 60], .sym 61⟩, ⟨mAt, [.sym 60, .sym 62], .sym 63⟩, ⟨mLd, [.sym 63], .sym 9⟩]
def orR (b : Bool) : List OR := [⟨13, [.sym 61, .int .i64 4], .bool b⟩, ⟨1, [.sym 61, .int .i64 1], .sym 62⟩]
def krR (b : Bool) : List KR := [⟨fNumber, [.sym 9], ⟨.tuple [.sym 1, .bool b], []⟩⟩]
def noR : AV := .tuple [.int .i64 0, .bool false]
theorem runR_few (V : World → Prop) : retIs (ER V (orR true) mrR []) fLRead noR (runS (ER V (orR true) mrR []) doneA 1000 pR1) = true := by kernel_rfl
theorem runR_num (V : World → Prop) : retIs (ER V (orR false) mrR (krR false)) fLRead noR (runS (ER V (orR false) mrR (krR false)) doneA 1000 pR1) = true := by kernel_rfl
def keepR2 : List (Nat × AV) := [(0, .sym 50), (1, .sym 0), (7, .sym 1), (9, .sym 20), (30, .sym 20), (33, .sym 21)]
def thR (m n : AV) : List (Nat × AV) := [(50, .sym 50), (0, .sym 0), (1, .sym 1), (20, m), (21, n)]
def tpR2 (V : World → Prop) : Option (List AItem) := toPat (ER V (orR false) mrR (krR true)) gl [] 6 1000 0 fLRead 56 keepR2 [] (thR (.int .i64 0) (.int .i64 0)) [] pR1
def tdR2 : List AItem := tdO (tpR2 fun _ => True)
theorem runR2 (V : World → Prop) : tpR2 V = some tdR2 := by kernel_rfl
theorem tdR1_noD : noD tdR1 = true := by kernel_rfl
theorem tdR2_noD : noD tdR2 = true := by kernel_rfl
def pR2 : AM := patM gl [] fLRead 56 tdR2 keepR2 []
def orR2 (b : Bool) : List OR := [⟨13, [.sym 21, .int .i64 31], .bool true⟩, ⟨0, [.sym 20, .int .i64 1], .sym 22⟩, ⟨0, [.sym 21, .int .i64 1], .sym 23⟩, ⟨11, [.sym 25, .sym 0], .bool b⟩]
def krR2 (ok : Bool) : List KR := [⟨fOf, [.sym 1, .sym 22, .sym 23], ⟨.tuple [.sym 24, .bool ok], []⟩⟩, ⟨fLText, [.sym 50, .sym 24], ⟨.sym 25, []⟩⟩]
theorem runR_go (V : World → Prop) : ∀ ok b : Bool, (ok && b) = false → toPat (ER V (orR2 b) [] (krR2 ok)) gl [] 6 1000 0 fLRead 56 keepR2 [] (thR (.sym 20) (.sym 23)) [] pR2 = some tdR2 := by
  intro ok b h
  cases ok <;> cases b <;> first | (cases h; done) | kernel_rfl
theorem runR_hit (V : World → Prop) : retIs (ER V (orR2 true) [] (krR2 true)) fLRead (.tuple [.sym 24, .bool true]) (runS (ER V (orR2 true) [] (krR2 true)) doneA 1000 pR2) = true := by kernel_rfl
def orR3 (b : Bool) : List OR := [⟨13, [.sym 21, .int .i64 31], .bool false⟩, ⟨0, [.sym 20, .int .i64 1], .sym 22⟩, ⟨13, [.sym 22, .int .i64 12], .bool b⟩]
theorem runR_mon (V : World → Prop) : toPat (ER V (orR3 true) [] []) gl [] 6 1000 0 fLRead 56 keepR2 [] (thR (.sym 22) (.int .i64 0)) [] pR2 = some tdR2 := by kernel_rfl
theorem runR_out (V : World → Prop) : retIs (ER V (orR3 false) [] []) fLRead noR (runS (ER V (orR3 false) [] []) doneA 1000 pR2) = true := by kernel_rfl
end
end Go.Proofs.YtjhnpcnamclfbaaGreatDoor

/-! lines.Read: any text: the day whose text it is; none. -/
namespace Go.Proofs.YtjhnpcnamclfbaaGreatDoor
open Go Go.Eng Go.RowKit
noncomputable section
set_option maxRecDepth 100000

/-! ### Dates that there are -/
theorem dated_of {y mm d : Nat} (y1 : 1 ≤ y) (y2 : y ≤ 9999) (m1 : 1 ≤ mm) (m2 : mm ≤ 12) (d1 : 1 ≤ d) (d2 : d ≤ longN (leapB (y : Int)) mm) : Dated (aheadN y + d + daysM (leapB (y : Int)) (mm - 1)) y mm d := by
  have es : daysM (leapB (y : Int)) mm = daysM (leapB (y : Int)) (mm - 1) + longN (leapB (y : Int)) mm := by
    obtain ⟨j, rfl⟩ : ∃ j, mm = j + 1 := ⟨mm - 1, by omega⟩
    rfl
  have h2 := daysM_mono (leapB (y : Int)) m2
  have h3 := days12 (leapB (y : Int))
  have h4 := ahead_step y y1
  have hi : aheadN y + d + daysM (leapB (y : Int)) (mm - 1) ≤ aheadN (y + 1) := by
    cases hb : leapB (y : Int) <;> (rw [hb] at h2 h3 h4 es d2; simp at h3 h4; omega)
  have h5 := ahead_mono (y := y + 1) (z := 10000) (by omega) (by omega)
  have e10 : aheadN 10000 = 3652059 := by decide
  obtain ⟨y', mm', d', h⟩ := dated (aheadN y + d + daysM (leapB (y : Int)) (mm - 1)) (by omega) (by omega)
  have yy : y' = y := by
    have a1 := h.lo; have a2 := h.hi
    rcases Nat.lt_trichotomy y' y with c | c | c
    · have := ahead_mono (y := y' + 1) (z := y) (by omega) (by omega); omega
    · exact c
    · have := ahead_mono (y := y + 1) (z := y') (by omega) (by omega); omega
  subst yy
  have mm_ : mm' = mm := by
    have a := h.mon
    rcases Nat.lt_trichotomy mm' mm with c | c | c
    · have := daysM_mono (leapB (y' : Int)) (a := mm') (b := mm - 1) (by omega); omega
    · exact c
    · have := daysM_mono (leapB (y' : Int)) (a := mm) (b := mm' - 1) (by omega); omega
  subst mm_
  have dd : d' = d := by have := h.e; omega
  subst dd
  exact h

/-! ### What the symbols stand for -/
def sgR (p : Value) (s : List UInt8) (N len : Nat) (lst : List UInt8) : Nat → Value
  | 0 => strV s
  | 50 => p
  | 60 => .slice (some ⟨N, 0, none⟩) len len
  | 61 => .int .i64 (len : Nat)
  | 62 => .int .i64 (len - 1 : Nat)
  | 63 => .pointer (some ⟨N, 0 + (len - 1), none⟩)
  | 9 => strV lst
  | 1 => .int .i64 (atoiN lst)
  | _ => .nilIface
def sgR2 (p : Value) (s : List UInt8) (k : Nat) (y : Int) (m n : Nat) (z : Int) : Nat → Value
  | 0 => strV s
  | 50 => p
  | 1 => .int .i64 y
  | 20 => .int .i64 (m : Nat)
  | 21 => .int .i64 (n : Nat)
  | 22 => .int .i64 (m + 1 : Nat)
  | 23 => .int .i64 (n + 1 : Nat)
  | 24 => .int .i64 z
  | 25 => strV (lineI k z)
  | _ => .nilIface

open Classical in
/-- What Read hands back. -/
def readN (k : Nat) (s : List UInt8) : Nat := if h : ∃ x, 1 ≤ x ∧ x ≤ 3652059 ∧ lineF k x = s then Classical.choose h else 0
open Classical in
def readB (k : Nat) (s : List UInt8) : Bool := if ∃ x, 1 ≤ x ∧ x ≤ 3652059 ∧ lineF k x = s then true else false
theorem read_hit {k x : Nat} {s : List UInt8} (hk : k < 4) (h1 : 1 ≤ x) (h2 : x ≤ 3652059) (e : lineF k x = s) : readN k s = x ∧ readB k s = true := by
  have hx : ∃ x, 1 ≤ x ∧ x ≤ 3652059 ∧ lineF k x = s := ⟨x, h1, h2, e⟩
  refine ⟨?_, by unfold readB; rw [if_pos hx]⟩
  unfold readN
  rw [dif_pos hx]
  obtain ⟨a, b, c⟩ := Classical.choose_spec hx
  exact line_inj hk hk a b h1 h2 (c.trans e.symm)
theorem read_no {k : Nat} {s : List UInt8} (h : ∀ x y mm d, Dated x y mm d → lineF k x ≠ s) : readN k s = 0 ∧ readB k s = false := by
  have hx : ¬ ∃ x, 1 ≤ x ∧ x ≤ 3652059 ∧ lineF k x = s := fun ⟨x, a, b, c⟩ => by
    obtain ⟨y, mm, d, hd⟩ := dated x a b
    exact h x y mm d hd c
  exact ⟨by unfold readN; rw [dif_neg hx], by unfold readB; rw [if_neg hx]⟩
def readV (k : Nat) (s : List UInt8) : Value := .tuple #[.int .i64 (readN k s : Nat), .bool (readB k s)]

section
variable {k : Nat} {ρt : Rho} {p : Value} {s : List UInt8} {m0 : Int}
def OutR (k : Nat) (s : List UInt8) (w : World) (cs : List Frame) (M : Machine) : Prop := Wins Tryz.prog fLRead cs (fun e w' => e = .returned (readV k s) ∧ Below w.heap.size w w') M
/-- The frame at a place, the table lying there. -/
def AtR (k : Nat) (ρt : Rho) (w : World) (ρ0 : Rho) (σ : Nat → Value) (cs : List Frame) (pt : AM) (M : Machine) : Prop :=
  ∃ b w1, (∀ j, j < w.heap.size → b j) ∧ Below w.heap.size w w1 ∧ Hold (tabW k ρt) b w1 ∧ ∀ E : Env, Live E b ρ0 σ cs pt M w1

theorem no_ret {E : Env} {b : Nat → Prop} {ρ0 : Rho} {σ : Nat → Value} {cs : List Frame} {mm : AM} {M : Machine} {w w1 : World} (hP : E.P = Tryz.prog) (ok : EnvS E σ) (mo : MemoOK E σ) (hv : Hold E.V b w1) (hB : Below w.heap.size w w1) (hb : ∀ j, j < w.heap.size → b j) (h : Live E b ρ0 σ cs mm M w1) {n : Nat}
    (hx : retIs E fLRead noR (runS E doneA n mm) = true) (hn : ∀ x y mm d, Dated x y mm d → lineF k x ≠ s) : OutR k s w cs M := by
  have := h.wins ok mo hv hx
  rw [hP] at this
  refine this.mono ?_
  rintro e w' ⟨u, ρ', rfl, hu, hK⟩
  refine ⟨?_, Below.kept hB hK hb⟩
  obtain ⟨vs, rfl, x, r, e2, hx, x2, r2, rfl, hx2, rfl⟩ := hu
  have hx : x = .int .i64 0 := hx
  have hx2 : x2 = .bool false := hx2
  obtain ⟨h1, h2⟩ := read_no hn
  unfold readV
  rw [h1, h2]
  have : vs = #[.int .i64 0, .bool false] := Array.ext' (by rw [e2, hx, hx2])
  rw [this]; rfl

theorem longI_nat (y : Int) {m : Nat} (h : m < 12) : longI y ((m + 1 : Nat) : Int) = longN (leapB y) (m + 1) := by
  unfold longI
  rw [if_neg (by omega)]
  congr 1
/-- Is there such a date? -/
def okOf (y : Int) (m n : Nat) : Bool := decide (1 ≤ y ∧ y ≤ 9999 ∧ n + 1 ≤ longN (leapB y) (m + 1))
def zOf (y : Int) (m n : Nat) : Int := bif okOf y m n then ((aheadN y.toNat + (n + 1) + daysM (leapB y) m : Nat) : Int) else 0
theorem okOf_dated {y : Int} {m n : Nat} (hm : m < 12) (h : okOf y m n = true) : ∃ x, zOf y m n = ((x : Nat) : Int) ∧ Dated x y.toNat (m + 1) (n + 1) ∧ ((y.toNat : Nat) : Int) = y := by
  have h0 := h
  unfold okOf at h
  rw [decide_eq_true_eq] at h
  have e : ((y.toNat : Nat) : Int) = y := by omega
  refine ⟨aheadN y.toNat + (n + 1) + daysM (leapB y) m, by unfold zOf; rw [h0]; rfl, ?_, e⟩
  have := dated_of (y := y.toNat) (mm := m + 1) (d := n + 1) (by omega) (by omega) (by omega) (by omega) (by omega) (by rw [e]; exact h.2.2)
  rw [e, Nat.add_sub_cancel] at this
  exact this
theorem dated_ok {y : Int} {m n x y' : Nat} (h : Dated x y' (m + 1) (n + 1)) (e : (y' : Int) = y) : okOf y m n = true ∧ zOf y m n = (x : Int) := by
  have h1 : okOf y m n = true := by
    unfold okOf
    rw [decide_eq_true_eq, ← e]
    exact ⟨by have := h.y1; omega, by have := h.y2; omega, h.d2⟩
  refine ⟨h1, ?_⟩
  unfold zOf
  rw [h1, ← e, Int.toNat_natCast]
  show ((aheadN y' + (n + 1) + daysM (leapB (y' : Int)) m : Nat) : Int) = _
  have := h.e
  rw [Nat.add_sub_cancel] at this
  omega
theorem c_of_zz {y : Int} {m n : Nat} (hm : m < 12) : CE fOf #[.int .i64 y, .int .i64 ((m + 1 : Nat) : Int), .int .i64 ((n + 1 : Nat) : Int)] (.tuple #[.int .i64 (zOf y m n), .bool (okOf y m n)]) := by
  cases hb : okOf y m n with
  | true =>
    obtain ⟨x, e1, hd, e2⟩ := okOf_dated hm hb
    have h := hb
    unfold okOf at h
    rw [decide_eq_true_eq] at h
    have c := c_of (y := y.toNat) (mm := m + 1) (d := n + 1) (by omega) (by omega) (by omega) (by omega) (by omega) (by rw [e2]; exact h.2.2)
    rw [e2, Nat.add_sub_cancel] at c
    have e3 : zOf y m n = ((aheadN y.toNat + (n + 1) + daysM (leapB y) m : Nat) : Int) := by unfold zOf; rw [hb]; rfl
    rw [e3]
    exact CallsV.more c.all fun _ _ => True.intro
  | false =>
    have h := hb
    unfold okOf at h
    rw [decide_eq_false_iff_not] at h
    have e3 : zOf y m n = 0 := by unfold zOf; rw [hb]; rfl
    rw [e3]
    refine c_of_none _ _ _ ?_
    rw [longI_nat y hm]
    omega

theorem envR {V : World → Prop} (o mr : List OR) (kr : List KR) {σ : Nat → Value} (ho : ∀ r ∈ o, RowOK (ER V o mr kr) 9 σ r) (hm : ∀ r ∈ mr, RowM (ER V o mr kr) σ r) (hk : ∀ r ∈ kr, KRow Tryz.prog gl σ r.f r.args r.img V) : EnvS (ER V o mr kr) σ ∧ MemoOK (ER V o mr kr) σ :=
  ⟨EnvS.askM (⟨envOK.ty, envOK.fns, envOK.mixed⟩ : EnvOK ({ E0 with V := V } : Env)) ho hm, memoKH_ok (E := ER V o mr kr) rfl hk⟩

theorem read_loop (hk : k < 4) (hp : PtrX k ρt p) {w : World} {ρ0 : Rho} {cs : List Frame} {y : Int} : ∀ fuel m n : Nat, 500 - (32 * m + n) ≤ fuel → m < 12 → n ≤ 31 →
    (∀ x y' mm d, Dated x y' mm d → lineF k x = s → (y' : Int) = y ∧ (m < mm - 1 ∨ (m = mm - 1 ∧ n ≤ d - 1))) → ∀ M, AtR k ρt w ρ0 (withM (sgR2 p s k y m n (zOf y m n)) m0) cs pR2 M → OutR k s w cs M := by
  intro fuel
  induction fuel with
  | zero => intro m n hf hm hn; omega
  | succ fuel ih =>
    intro m n hf hm hn hH M ⟨b, w1, q1, q2, q3, q4⟩
    by_cases h31 : n < 31
    · have rows : ∀ bb : Bool, bb = decide (lineI k (zOf y m n) = s) → EnvS (ER (tabW k ρt) (orR2 bb) [] (krR2 (okOf y m n))) (withM (sgR2 p s k y m n (zOf y m n)) m0) ∧ MemoOK (ER (tabW k ρt) (orR2 bb) [] (krR2 (okOf y m n))) (withM (sgR2 p s k y m n (zOf y m n)) m0) := fun bb hb => envR _ _ _ (fun r hr => by
        simp only [orR2, List.mem_cons, List.mem_nil_iff, or_false] at hr
        rcases hr with rfl | rfl | rfl | rfl
        · exact RowOK.cmp .i64 (x := (n : Int)) (y := 31) rfl rfl (.inr (.inr (.inl ⟨rfl, by symm; rw [decide_eq_true_eq]; omega⟩)))
        · exact RowOK.add64 (x := (m : Int)) (y := 1) (z := ((m + 1 : Nat) : Int)) rfl rfl rfl (by omega) (by omega) (by omega)
        · exact RowOK.add64 (x := (n : Int)) (y := 1) (z := ((n + 1 : Nat) : Int)) rfl rfl rfl (by omega) (by omega) (by omega)
        · refine RowOK.seq (p := nats (lineI k (zOf y m n))) (q := nats s) rfl rfl (.inl ⟨rfl, ?_⟩)
          rw [hb, decide_eq_decide]
          exact nats_iff.symm) (fun r hr => by cases hr) (fun r hr => by
        simp only [krR2, List.mem_cons, List.mem_nil_iff, or_false] at hr
        rcases hr with rfl | rfl
        · exact KRow.ofC (withM_kM _ _) rfl rfl (va := #[.int .i64 y, .int .i64 ((m + 1 : Nat) : Int), .int .i64 ((n + 1 : Nat) : Int)]) ⟨_, _, rfl, ⟨rfl, rfl⟩, _, _, rfl, ⟨rfl, rfl⟩, _, _, rfl, ⟨rfl, rfl⟩, rfl⟩ (.inr ⟨_, rfl, rfl⟩) (u := .tuple #[.int .i64 (zOf y m n), .bool (okOf y m n)]) ⟨_, rfl, _, _, rfl, ⟨rfl, rfl⟩, _, _, rfl, rfl, rfl⟩ (CallsV.more (c_of_zz hm) fun _ h => h.2)
        · have hp1 : p.oneCell' = true := by obtain ⟨L, _, rfl, _⟩ := hp; rfl
          exact KRow.ofC (withM_kM _ _) rfl rfl (va := #[p, .int .i64 (zOf y m n)]) ⟨_, _, rfl, ⟨rfl, hp1⟩, _, _, rfl, ⟨rfl, rfl⟩, rfl⟩ (.inl rfl) (u := strV (lineI k (zOf y m n))) ⟨rfl, rfl⟩ (c_ltextI hk hp _))
      by_cases hit : okOf y m n = true ∧ lineI k (zOf y m n) = s
      · obtain ⟨h1, h2⟩ := hit
        obtain ⟨x, e1, hd, e2⟩ := okOf_dated hm h1
        have hr := hd.range
        have hz : lineF k x = s := by rw [← h2, e1, lineI_nat hr.1 hr.2]
        obtain ⟨r1, r2⟩ := read_hit hk hr.1 hr.2 hz
        obtain ⟨ok, mo⟩ := rows true (decide_eq_true h2).symm
        rw [h1] at ok mo
        refine ((q4 (ER (tabW k ρt) (orR2 true) [] (krR2 true))).wins ok mo q3 (runR_hit _)).mono ?_
        rintro e w' ⟨u, ρ', rfl, hu, hK⟩
        refine ⟨?_, Below.kept q2 hK q1⟩
        obtain ⟨vs, rfl, x', r, e3, ⟨hx, _⟩, x2, r2', rfl, hx2, rfl⟩ := hu
        have hx : x' = .int .i64 (zOf y m n) := hx
        have hx2 : x2 = .bool true := hx2
        unfold readV
        rw [r1, r2, ← e1]
        have : vs = #[.int .i64 (zOf y m n), .bool true] := Array.ext' (by rw [e3, hx, hx2])
        rw [this]
      · have hgo : (okOf y m n && decide (lineI k (zOf y m n) = s)) = false := by
          rw [Bool.and_eq_false_iff]
          by_cases c : okOf y m n = true
          · exact .inr (decide_eq_false fun e => hit ⟨c, e⟩)
          · exact .inl (by simpa using c)
        obtain ⟨ok, mo⟩ := rows _ rfl
        obtain ⟨M', w', b', g1, g2, g3, g4⟩ := (q4 (ER (tabW k ρt) (orR2 (decide (lineI k (zOf y m n) = s))) [] (krR2 (okOf y m n)))).toPat (E' := E0) (σ' := withM (sgR2 p s k y m (n + 1) (zOf y m (n + 1))) m0) ok mo q3 (runR_go _ _ _ hgo) glOK gl_bareM rfl rfl ⟨rfl, rfl, rfl, rfl, rfl, trivial⟩
        refine Wins.steps g1 (ih m (n + 1) (by omega) hm (by omega) ?_ M' ⟨b', w', fun j hj => g3 _ (q1 j hj), Below.kept q2 g2 q1, (q3.kept g2).wide g3, fun E => Live.env g4 rfl tdR2_noD⟩)
        intro x y' mm d hd hx
        obtain ⟨a1, a2⟩ := hH x y' mm d hd hx
        refine ⟨a1, ?_⟩
        rcases a2 with a2 | ⟨a2, a3⟩
        · exact .inl a2
        · refine .inr ⟨a2, ?_⟩
          have hne : n ≠ d - 1 := fun e => by
            have d1 := hd.d1; have m1 := hd.m1
            obtain rfl : d = n + 1 := by omega
            obtain rfl : mm = m + 1 := by omega
            obtain ⟨o1, o2⟩ := dated_ok hd a1
            exact hit ⟨o1, by rw [o2, lineI_nat hd.range.1 hd.range.2]; exact hx⟩
          omega
    · obtain rfl : n = 31 := by omega
      have hH' : ∀ x y' mm d, Dated x y' mm d → lineF k x = s → (y' : Int) = y ∧ m < mm - 1 := fun x y' mm d hd hx => by
        obtain ⟨a1, a2⟩ := hH x y' mm d hd hx
        have := hd.d31
        refine ⟨a1, ?_⟩
        have d1 := hd.d1
        omega
      have rows : ∀ bb : Bool, bb = decide (m + 1 < 12) → EnvS (ER (tabW k ρt) (orR3 bb) [] []) (withM (sgR2 p s k y m 31 (zOf y m 31)) m0) ∧ MemoOK (ER (tabW k ρt) (orR3 bb) [] []) (withM (sgR2 p s k y m 31 (zOf y m 31)) m0) := fun bb hb => envR _ _ _ (fun r hr => by
        simp only [orR3, List.mem_cons, List.mem_nil_iff, or_false] at hr
        rcases hr with rfl | rfl | rfl
        · exact RowOK.cmp .i64 (x := ((31 : Nat) : Int)) (y := 31) rfl rfl (.inr (.inr (.inl ⟨rfl, by decide⟩)))
        · exact RowOK.add64 (x := (m : Int)) (y := 1) (z := ((m + 1 : Nat) : Int)) rfl rfl rfl (by omega) (by omega) (by omega)
        · exact RowOK.cmp .i64 (x := ((m + 1 : Nat) : Int)) (y := 12) rfl rfl (.inr (.inr (.inl ⟨rfl, by rw [hb, decide_eq_decide]; omega⟩)))) (fun r hr => by cases hr) (fun r hr => by cases hr)
      by_cases h12 : m + 1 < 12
      · obtain ⟨ok, mo⟩ := rows true (decide_eq_true h12).symm
        obtain ⟨M', w', b', g1, g2, g3, g4⟩ := (q4 (ER (tabW k ρt) (orR3 true) [] [])).toPat (E' := E0) (σ' := withM (sgR2 p s k y (m + 1) 0 (zOf y (m + 1) 0)) m0) ok mo q3 (runR_mon _) glOK gl_bareM rfl rfl ⟨rfl, rfl, rfl, rfl, rfl, trivial⟩
        refine Wins.steps g1 (ih (m + 1) 0 (by omega) h12 (by omega) ?_ M' ⟨b', w', fun j hj => g3 _ (q1 j hj), Below.kept q2 g2 q1, (q3.kept g2).wide g3, fun E => Live.env g4 rfl tdR2_noD⟩)
        intro x y' mm d hd hx
        obtain ⟨a1, a2⟩ := hH' x y' mm d hd hx
        exact ⟨a1, by omega⟩
      · obtain ⟨ok, mo⟩ := rows false (decide_eq_false h12).symm
        refine no_ret (E := ER (tabW k ρt) (orR3 false) [] []) rfl ok mo q3 q2 q1 (q4 _) (runR_out _) fun x y' mm d hd hx => ?_
        obtain ⟨_, a2⟩ := hH' x y' mm d hd hx
        have := hd.m2
        omega

/-! ### Behind Split -/
def memR (k : Nat) (ρt : Rho) (N : Nat) (F : List (List UInt8)) (w : World) : Prop := (∃ c t fr, w.heap[N]? = some (.cells c t fr) ∧ c.toList = F.map strV) ∧ tabW k ρt w
theorem memR_hold {N : Nat} {F : List (List UInt8)} {b : Nat → Prop} {w : World} (h : memR k ρt N F w) (hN : b N) (he : Hold (tabW k ρt) b w) : Hold (memR k ρt N F) b w :=
  ⟨h, fun w1 w2 ⟨⟨c, t, fr, e1, e2⟩, q⟩ hK => ⟨⟨c, t, fr, by rw [hK.block N hN]; exact e1, e2⟩, he.keep _ _ q hK⟩⟩
theorem typStrs {E : Env} (h : E.ty = E0.ty) : und E tStrs = some (.slice tStr) ∧ szOf E tStr = some 1 := by
  unfold und szOf; rw [h]; exact ⟨by kernel_rfl, by kernel_rfl⟩
theorem tyStr {E : Env} (h : E.ty = E0.ty) : ∃ ti, E.ty.get tStr = some ti ∧ ti.isAgg = false := by
  rw [h]
  have h1 : (match E0.ty.get tStr with | some ti => !ti.isAgg | none => false) = true := by kernel_rfl
  split at h1
  · rename_i ti hti; exact ⟨ti, hti, by simpa using h1⟩
  · cases h1
theorem line_target {x y mm d : Nat} (hk : k < 4) (hd : Dated x y mm d) {fa : List (List UInt8)} {ta : List UInt8} (hb : bare fa) (ht : 32 ∉ ta) (e : lineF k x = tailS fa ta) : fa.length = 3 ∧ ta = Lib.decDigits y := by
  rw [lineF_eq hd] at e
  obtain ⟨e1, e2⟩ := tail_inj (line_bare hk hd) (dec_bare y) hb ht e
  exact ⟨by rw [← e1]; rfl, e2.symm⟩

theorem read_via (hk : k < 4) (hp : PtrX k ρt p) (hs : s.length ≤ 1000) {fa : List (List UInt8)} {ta : List UInt8} (hb : bare fa) (ht : 32 ∉ ta) (es : s = tailS fa ta) {w w1 : World} {cs : List Frame} {ρ0 : Rho} {M : Machine} {N : Nat} (hmem : memR k ρt N (fa ++ [ta]) w1) (hB : Below w.heap.size w w1)
    (hv : Hold (tabW k ρt) (fun j => j < w.heap.size) w1) {b : Nat → Prop} (hbN : b N) (hbl : ∀ j, j < w.heap.size → b j)
    (hL : ∀ E : Env, Live E b ρ0 (withM (sgR p s N (fa.length + 1) ta) m0) cs pR1 M w1) : OutR k s w cs M := by
  have hlen : ta.length ≤ 1000 ∧ fa.length ≤ 1000 := by
    have h1 := tail_len_le fa ta
    rw [← es] at h1
    omega
  have hH : Hold (memR k ρt N (fa ++ [ta])) b w1 := memR_hold hmem hbN (hv.wide hbl)
  have mr : ∀ {E : Env}, E.ty = E0.ty → EnvOK E → (∀ w, E.V w → memR k ρt N (fa ++ [ta]) w) → ∀ r ∈ mrR, RowM E (withM (sgR p s N (fa.length + 1) ta) m0) r := by
    intro E hT ok hV r hr
    obtain ⟨hu, hz⟩ := typStrs hT
    obtain ⟨ti, hti, hA⟩ := tyStr hT
    simp only [mrR, List.mem_cons, List.mem_nil_iff, or_false] at hr
    rcases hr with rfl | rfl | rfl
    · exact RowM.len (u := tStrs) (len := fa.length + 1) (cap := fa.length + 1) (ad := some ⟨N, 0, none⟩) hu rfl rfl ok
    · exact RowM.at (u := tStrs) (n := fa.length) (kd := .i64) (blk := N) (off := 0) (len := fa.length + 1) (cap := fa.length + 1) hu hz rfl rfl (by omega) rfl ok
    · refine RowM.load (u := tStr) (blk := N) (off := 0 + fa.length) rfl hti hA (fun w hw => ?_) ok
      obtain ⟨⟨c, t', fr, e1, e2⟩, _⟩ := hV w hw
      refine ⟨c, t', fr, strV ta, e1, ?_, fun ρ => ⟨rfl, rfl⟩⟩
      rw [← Array.getElem?_toList, e2, List.getElem?_map, show 0 + fa.length = fa.length by omega, List.getElem?_append_right (Nat.le_refl _), Nat.sub_self]; rfl
  have oro : ∀ {E : Env} {bb : Bool}, bb = decide (fa.length + 1 < 4) → ∀ r ∈ orR bb, RowOK E 9 (withM (sgR p s N (fa.length + 1) ta) m0) r := by
    intro E bb hbb r hr
    simp only [orR, List.mem_cons, List.mem_nil_iff, or_false] at hr
    rcases hr with rfl | rfl
    · exact RowOK.cmp .i64 (x := ((fa.length + 1 : Nat) : Int)) (y := 4) rfl rfl (.inr (.inr (.inl ⟨rfl, by rw [hbb, decide_eq_decide]; omega⟩)))
    · exact RowOK.sub64 (x := ((fa.length + 1 : Nat) : Int)) (y := 1) (z := ((fa.length + 1 - 1 : Nat) : Int)) rfl rfl rfl (by omega) (by omega) (by omega)
  have eV : ∀ {o mr kr}, EnvOK (ER (memR k ρt N (fa ++ [ta])) o mr kr) := ⟨envOK.ty, envOK.fns, envOK.mixed⟩
  by_cases h4 : fa.length + 1 < 4
  · obtain ⟨ok, mo⟩ := envR (V := memR k ρt N (fa ++ [ta])) (orR true) mrR [] (σ := withM (sgR p s N (fa.length + 1) ta) m0) (oro (decide_eq_true h4).symm) (mr rfl eV fun _ h => h) (fun r hr => by cases hr)
    refine no_ret (E := ER (memR k ρt N (fa ++ [ta])) (orR true) mrR []) rfl ok mo hH hB hbl (hL _) (runR_few _) fun x y mm d hd hx => ?_
    have := (line_target hk hd hb ht (hx.trans es)).1
    omega
  have krs : ∀ r ∈ krR (isNum ta), KRow Tryz.prog gl (withM (sgR p s N (fa.length + 1) ta) m0) r.f r.args r.img (memR k ρt N (fa ++ [ta])) := by
    intro r hr
    simp only [krR, List.mem_cons, List.mem_nil_iff, or_false] at hr
    subst hr
    exact KRow.ofC (withM_kM _ _) rfl rfl (va := #[strV ta]) ⟨_, _, rfl, ⟨rfl, rfl⟩, rfl⟩ (.inr ⟨_, rfl, rfl⟩) (u := .tuple #[.int .i64 (atoiN ta), .bool (isNum ta)]) ⟨_, rfl, _, _, rfl, ⟨rfl, rfl⟩, _, _, rfl, rfl, rfl⟩ (CallsV.more (c_number ta (by omega)) fun _ h => h.2.2)
  obtain ⟨ok, mo⟩ := envR (V := memR k ρt N (fa ++ [ta])) (orR false) mrR (krR (isNum ta)) (σ := withM (sgR p s N (fa.length + 1) ta) m0) (oro (decide_eq_false h4).symm) (mr rfl eV fun _ h => h) krs
  cases hn : isNum ta with
  | false =>
    rw [hn] at ok mo
    refine no_ret (E := ER (memR k ρt N (fa ++ [ta])) (orR false) mrR (krR false)) rfl ok mo hH hB hbl (hL _) (runR_num _) fun x y mm d hd hx => ?_
    have e := (line_target hk hd hb ht (hx.trans es)).2
    rw [e, (num_dec y (by have := hd.y2; omega)).2] at hn
    cases hn
  | true =>
    rw [hn] at ok mo
    obtain ⟨M', w', b', g1, g2, g3, g4⟩ := (hL (ER (memR k ρt N (fa ++ [ta])) (orR false) mrR (krR true))).toPat (E' := E0) (σ' := withM (sgR2 p s k (atoiN ta) 0 0 (zOf (atoiN ta) 0 0)) m0) ok mo hH (runR2 _) glOK gl_bareM rfl rfl ⟨rfl, rfl, rfl, rfl, rfl, trivial⟩
    refine Wins.steps g1 (read_loop hk hp 500 0 0 (by omega) (by omega) (by omega) ?_ M' ⟨b', w', fun j hj => g3 _ (hbl j hj), Below.kept hB g2 hbl, ((hv.wide hbl).kept g2).wide g3, fun E => Live.env g4 rfl tdR2_noD⟩)
    intro x y mm d hd hx
    have e := (line_target hk hd hb ht (hx.trans es)).2
    refine ⟨by rw [e, (num_dec y (by have := hd.y2; omega)).1], ?_⟩
    have := hd.m1
    omega

/-- Any text: the day whose text it is. -/
theorem c_read (hk : k < 4) (hp : PtrX k ρt p) (hs : s.length ≤ 1000) : CT k ρt fLRead #[p, strV s] (readV k s) := by
  intro w ⟨m, hm⟩ hW cs
  obtain ⟨fa, ta, hb, ht, es⟩ := fields_of s
  have hp1 : p.oneCell' = true := by obtain ⟨L, _, rfl, _⟩ := hp; rfl
  have hv : Hold (tabW k ρt) (fun j => j < w.heap.size) w := tabW_all k ρt w hW
  obtain ⟨ρ, hR⟩ := hm (withM (sgR p s 0 (fa.length + 1) ta) m) (withM_kM _ _)
  have hva0 : VRs ρ (withM (sgR p s 0 (fa.length + 1) ta) m) [.sym 50, .sym 0] (#[p, strV s] : Array Value).toList := ⟨_, _, rfl, ⟨rfl, hp1⟩, _, _, rfl, ⟨rfl, rfl⟩, rfl⟩
  cases hmc : mRc (tabW k ρt) with
  | none => have := cR_dst (tabW k ρt); rw [hmc] at this; cases this
  | some m1 =>
    have hfr : enterA (ER (tabW k ρt) [] [] []) fSplit [.sym 0, .str [32]] .normal = some m1.fr := by have := cR_fr (tabW k ρt); rwa [hmc] at this
    have hdst : dstIs m1 14 = true := by have := cR_dst (tabW k ρt); rwa [hmc] at this
    have htd := cR_td (tabW k ρt)
    have hgen := cR_gen (tabW k ρt)
    unfold mRb at htd hgen
    rw [hmc] at htd hgen
    cases hm2 : behind m1 with
    | none => have htd : todoOf (behind m1) = some tdR1 := htd; rw [hm2] at htd; cases htd
    | some m2 =>
      have htd : todoOf (behind m1) = some tdR1 := htd
      have hgen : isB (behind m1) (genOK gl [] fLRead 56 keepR1 [] thR1 [] [14]) = true := hgen
      rw [hm2] at htd hgen
      have htd : m2.fr.todo = tdR1 := Option.some.inj htd
      have hgen : genOK gl [] fLRead 56 keepR1 [] thR1 [] [14] m2 = true := hgen
      obtain ⟨m0, hm0, hm1⟩ := bnd_some hmc
      obtain ⟨fr, hfr0, rfl⟩ := startM_some hm0
      obtain ⟨ok, mo⟩ := envR (V := tabW k ρt) [] [] [] (σ := withM (sgR p s 0 (fa.length + 1) ta) m) (fun r hr => by cases hr) (fun r hr => by cases hr) (fun r hr => by cases hr)
      have hL0 := Live.start (E := ER (tabW k ρt) [] [] []) (cs := cs) ok.ok hR hva0 hfr0
      obtain ⟨⟨M1, w1, g1, g2, g3⟩, _⟩ := hL0.run ok mo hv hm1
      have hB1 : Below w.heap.size w w1 := Below.kept (Below.refl _ _) g2 fun _ h => h
      have hv1 := hv.kept g2
      have ht1 : tabW k ρt w1 := hv1.now
      obtain ⟨u, w2, M2, c1, c2, ⟨rfl, hmem⟩, c4⟩ := g3.call (E' := ER (tabW k ρt) [] [] []) (gl := gl) (xs := []) (fn := fLRead) (nt := 56) (keep := keepR1) (bs := []) (θ := thR1) (μ := []) (f := fSplit) (args := [.sym 0, .str [32]]) (t0 := 14) (i0 := 60) (m2 := m2)
        (Post := fun u w2 => u = .slice (some ⟨w1.heap.size, 0, none⟩) (fa.length + 1) (fa.length + 1) ∧ memR k ρt w1.heap.size (fa ++ [ta]) w2) ok.ok hfr hdst hm2 hgen (by kernel_rfl) rfl glOK gl_bareM rfl fun va hva => by
          have e : va = #[strV s, strV [32]] := Array.ext' (tellsVs_funs (l := [.sym 0, .str [32]]) (ρ := fun _ => none) (ρ' := fun _ => none) rfl hva ⟨_, _, rfl, ⟨rfl, rfl⟩, _, _, rfl, ⟨_, rfl, rfl⟩, rfl⟩)
          subst e
          have hR1 : w1.cell? ⟨gMax, 0, none⟩ = some (.int .i64 m) := by
            have h0 := maxLen_cell hR gl_has (withM_kM (sgR p s 0 (fa.length + 1) ta) m)
            have : gMax < w.heap.size := Lib.lt_of_cell h0
            rw [hB1.cell (p := ⟨gMax, 0, none⟩) this]; exact h0
          have hsp := Tryz.strings_Split ⟨s.toArray⟩ ⟨#[32]⟩ m w1 (by show s.toArray.size < _; rw [List.size_toArray]; omega) hR1 (by decide)
          refine hsp.mono ?_
          rintro e w2 ⟨rfl, rfl⟩
          have hcn : Lib.countB ⟨s.toArray⟩ ⟨#[32]⟩ = fa.length := by rw [← es]; exact count_tail fa ta hb ht
          have hsl := splitB_tail fa ta hb ht
          rw [es] at hsl
          refine ⟨_, rfl, rfl, (Below.refl _ _).alloc (Nat.le_refl _) _, by rw [hcn], ⟨_, _, _, heap_alloc_new _ _, by rw [← hsl]⟩, ?_⟩
          exact (tabW_all k ρt w1 ht1).keep _ _ ht1 (New.below (New.alloc w1 _) fun k hk => hk)
      have hB2 : Below w.heap.size w w2 := hB1.trans (c2.mono hB1.size)
      have hcell : w1.heap.size < w2.heap.size := by
        obtain ⟨⟨_, _, _, e1, _⟩, _⟩ := hmem
        exact lt_of_get e1
      have hv2 : Hold (tabW k ρt) (fun k => k < w.heap.size) w2 := hv.kept ⟨hB2.os, hB2.tape, hB2.output, hB2.size, fun k hk => hB2.block k hk⟩
      obtain ⟨b', p1, p2, p3⟩ := c4 (withM (sgR p s w1.heap.size (fa.length + 1) ta) m) rfl rfl ⟨rfl, rfl, trivial⟩
      rw [htd] at p3
      exact Wins.steps (g1.trans c1) (read_via hk hp hs hb ht es.symm hmem hB2 hv2 (p2 _ (Nat.le_refl _) hcell) p1 (fun E => Live.env p3 rfl tdR1_noD))
end
end
end Go.Proofs.YtjhnpcnamclfbaaGreatDoor

/-! The language's table, called for: a law's way to behind that call. -/
namespace Go.Proofs.YtjhnpcnamclfbaaGreatDoor
open Go Go.Eng Go.RowKit
noncomputable section
set_option maxRecDepth 100000
/-! ### Table -/
def tabs4 : List (FuncId × Img) := [(fEnglish, englishImg), (fGerman, germanImg), (fFrench, frenchImg), (fPolish, polishImg)]
theorem tabs4_ok (σ : Nat → Value) {E : Env} (hP : E.P = Tryz.prog) : MemoOK { E with memo := memoI gl tabs4 } σ := by
  refine MemoOK.ofI ?_ _
  rw [hP]
  intro x hx
  simp only [tabs4, List.mem_cons, List.mem_nil_iff, or_false] at hx
  rcases hx with rfl | rfl | rfl | rfl
  · exact knowenglish
  · exact knowgerman
  · exact knowfrench
  · exact knowpolish
def upFrom (b n : Nat) : List Nat := Nat.rec (motive := fun _ => Nat → List Nat) (fun _ => []) (fun _ ih b => b :: ih (Nat.succ b)) n b
def ETb (r : Nat) : Env := E0.askM 9 [⟨4, [.sym 1, .int .u8 4], .int .u8 (Int.ofNat r)⟩] [] (memoOr (memoI gl tabs4) (memoKH gl []))
theorem runTb : allB (fun r => imgRunA (ETb r) gl fTable9 [.sym 1] 1000 (upFrom (Nat.add 1001 (Nat.mul 45 r)) 43) (tabI r)) k4 = true := by kernel_rfl
theorem place_tab : allB (fun r => match place (tabI r) (stOf gl) with | some _ => true | none => false) k4 = true := by kernel_rfl
theorem kr_table {σ : Nat → Value} {a : Nat} (h1 : σ 1 = .int .u8 (a : Int)) : KRow Tryz.prog gl σ fTable9 [.sym 1] (tabI (a % 4)) := by
  have ok : EnvS (ETb (a % 4)) σ := EnvS.askM envOK (fun r hr => by
    simp only [List.mem_cons, List.mem_nil_iff, or_false] at hr
    subst hr
    exact RowOK.rem .u8 (x := ((a : Nat) : Int)) (y := ((4 : Nat) : Int)) (by show concS 1 (σ 1) = _; rw [h1]; rfl) rfl rfl (by decide) (tmodN a 4)) (fun r hr => by cases hr)
  have mo : MemoOK (ETb (a % 4)) σ := MemoOK.or (E := ETb (a % 4)) (tabs4_ok σ (E := ETb (a % 4)) rfl) (memoKH_ok (E := ETb (a % 4)) rfl fun r hr => by cases hr)
  exact KRow.of (E := ETb (a % 4)) ok mo glOK (allB_spec runTb (a % 4) (mem_k4 (Nat.mod_lt _ (by omega))))
theorem Vars.below {w w1 : World} (h : Vars gl w) (hB : Below w.heap.size w w1) : Vars gl w1 := by
  obtain ⟨m, hm⟩ := h
  refine ⟨m, fun σ hσ => ?_⟩
  obtain ⟨ρ, hR⟩ := hm σ hσ
  exact ⟨_, (hR.frame hB).start glOK gl_has⟩
/-- A table is handed back, all of it new. -/
theorem table_calls {w : World} (hw : Vars gl w) (a : Nat) : Calls Tryz.prog fTable9 #[.int .u8 (a : Int)] w (fun e w2 => ∃ u, e = .returned u ∧ u.oneCell' = true ∧ Below w.heap.size w w2 ∧
    ∃ ρt, HasX (tabX (a % 4)) ρt w2 ∧ PtrX (a % 4) ρt u ∧ ∀ i L, ρt i = some L → w.heap.size ≤ L.blk ∧ L.blk < w2.heap.size) := by
  have h4 : a % 4 < 4 := Nat.mod_lt _ (by omega)
  obtain ⟨m, hm⟩ := hw
  obtain ⟨ρ, hR⟩ := hm (withM (fun _ => .int .u8 (a : Int)) m) (withM_kM _ _)
  have hpl := allB_spec place_tab (a % 4) (mem_k4 h4)
  have hob := allB_spec tab_okB (a % 4) (mem_k4 h4)
  rw [Bool.and_eq_true] at hob
  cases hp : place (tabI (a % 4)) (stOf gl) with
  | none => rw [hp] at hpl; cases hpl
  | some x =>
    obtain ⟨v, s'⟩ := x
    refine (kr_table (σ := withM (fun _ => .int .u8 (a : Int)) m) (a := a) rfl (.at w.heap.size) ρ (stOf gl) w #[.int .u8 (a : Int)] (Hold.all (fun _ => True.intro) _ _) hR gl_has ⟨_, _, rfl, ⟨rfl, rfl⟩, rfl⟩ v s' hp).mono ?_
    rintro e w2 ⟨u, ρ', rfl, _, hu, hR2, hK⟩
    obtain ⟨h1, h2, h3⟩ := hR2.toX hp hob.1
    have hlen : 0 < (tabI (a % 4)).bs.length := by
      have := Nat.le_of_ble_eq_true hob.2
      rw [len_eq] at this; exact this
    obtain ⟨L, hL, e⟩ := h3 0 u (tab_ptr _ h4) hu hlen
    refine ⟨u, rfl, by rw [e]; rfl, hK.at, rhoT (tabI (a % 4)).bs.length ρ', h1, ⟨L, hL, e, isX_iff.2 ⟨Nat.le_refl _, by rw [tabX_len]; omega⟩⟩, h2⟩

theorem Live.size {E : Env} {b : Nat → Prop} {ρ0 : Rho} {σ : Nat → Value} {cs : List Frame} {m : AM} {M : Machine} {w : World} (h : Live E b ρ0 σ cs m M w) : ∀ k, b k → k < w.heap.size := by
  obtain ⟨ρ, f, cs', pd, q, rfl, hm, hlow⟩ := h
  exact hm.r.size

end
end Go.Proofs.YtjhnpcnamclfbaaGreatDoor
