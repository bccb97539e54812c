/- Contracts of civil's Of and padded. No condition. -/
import Derived.Test.YtnnhijfbdkokkaaGreatDoorCc
import Derived.Test.YtnnhijfbdkokkaaGreatDoorSh
import Derived.Lib.AppendIntMem
import Derived.Lib.AtoiErrMem
namespace Go.Proofs.YtnnhijfbdkokkaaGreatDoor
open Go Go.Eng Go.RowKit
noncomputable section
set_option maxRecDepth 100000

/-! ### The table of powers stands -/
def tabV (w : World) : Prop := Lib.TabIs Tryz.prog w "internal/strconv.uint64pow10" .u64 Lib.pow10Tab
theorem tabV_hold (w : World) (h : tabV w) : Hold tabV (fun k => k < w.heap.size) w := by
  refine ⟨h, fun w1 w2 h1 hK => ?_⟩
  unfold tabV Lib.TabIs World.var? at h h1 ⊢
  cases hg : Tryz.prog.globalNamed "internal/strconv.uint64pow10" with
  | none => rw [hg] at h; cases h
  | some g =>
    rw [hg] at h h1
    simp only [Option.bind_some] at h h1 ⊢
    have hlt : g < w.heap.size := by
      rcases Nat.lt_or_ge g w.heap.size with hl | hl
      · exact hl
      · rw [Array.getElem?_eq_none hl] at h; cases h
    rw [hK.block g hlt]
    exact h1
def EV : Env := { E0 with V := tabV }
theorem envV : EnvOK EV := ⟨envOK.ty, envOK.fns, envOK.mixed⟩
abbrev CW (f : FuncId) (va : Array Value) (u : Value) : Prop := CallsV Tryz.prog glC f va u tabV
theorem CV.w {f : FuncId} {va : Array Value} {u : Value} (h : CV f va u) : CW f va u := h.more fun _ _ => True.intro
def strV (l : List UInt8) : Value := .string ⟨l.toArray⟩
theorem c_itoa (u : Nat) (h : u ≤ 9223372036854775807) : CW fItoa #[.int .i64 (u : Int)] (strV (Lib.decDigits u)) := by
  intro w _ hv
  refine (Tryz.strconv_Itoa (u : Int) (by omega) (by omega) w hv).mono ?_
  rintro e w' ⟨rfl, k, os, rfl⟩
  rw [Lib.itoa_nonneg]
  exact ⟨rfl, Lib.below_grow _ w (Nat.le_refl _) k os⟩
theorem c_atoi (l : List UInt8) (n : Int) (hl : l.length ≤ 1000) (h : Lib.atoiAll l = .ok n) : CW fAtoi #[strV l] (.tuple #[.int .i64 n, .nilIface]) := by
  intro w _ _
  refine (Tryz.strconv_Atoi_ok ⟨l.toArray⟩ (by show l.toArray.size ≤ _; rw [List.size_toArray]; omega) n h w).mono ?_
  rintro e w' ⟨rfl, rfl | ⟨t, rfl⟩⟩
  · exact ⟨rfl, Below.refl _ _⟩
  · exact ⟨rfl, Lib.bytesWorld_below _ _ _⟩
theorem c_zeros (k : Nat) (h : k ≤ 100000) : CW fRepeat #[strV [48], .int .i64 (k : Int)] (strV (Lib.repeatL [48] k)) := by
  intro w _ _
  refine (Tryz.strings_Repeat ⟨#[48]⟩ k w (by omega) (by show 1 * k ≤ _; omega)).mono ?_
  rintro e w' ⟨rfl, hB⟩
  exact ⟨rfl, hB⟩

/-! ### Of -/
def orOf (l : Bool) (mm : Nat) : List OR :=
  [⟨13, [.sym 0, .int .i64 1], .bool false⟩, ⟨15, [.sym 0, .int .i64 9999], .bool false⟩, ⟨13, [.sym 2, .int .i64 1], .bool false⟩, ⟨15, [.sym 2, .int .i64 (Int.ofNat (longN l mm))], .bool false⟩, ⟨0, [.sym 10, .sym 2], .sym 11⟩, ⟨cv tInt tDay, [.sym (Nat.add 10 mm)], .sym (Nat.add 10 mm)⟩] ++
  flatR (fun j => [⟨0, [.sym (Nat.add 11 j), .int .i64 (Int.ofNat (longN l (Nat.succ j)))], .sym (Nat.add 12 j)⟩]) (Nat.pred mm)
def krOf (l : Bool) (mm : Nat) : List KR := ⟨fAhead, [.sym 0], ⟨.sym 10, []⟩⟩ :: (upTo mm).map (fun j => ⟨fLong, [.sym 0, .int .i64 (Int.ofNat (Nat.succ j))], ⟨.int .i64 (Int.ofNat (longN l (Nat.succ j))), []⟩⟩)
theorem runOf0 : ∀ l : Bool, allB (fun mm => rowRun (E0.askH 9 (orOf l mm) (memoKH glC (krOf l mm))) glC fOf [.sym 0, .int .i64 (Int.ofNat mm), .sym 2] 1000 (.tuple [.sym (Nat.add 10 mm), .bool true])) months12 = true := by
  intro l
  cases l <;> kernel_rfl

/-! ### padded -/
def bytesZ (k : Nat) : List Nat := Nat.rec (motive := fun _ => List Nat) [] (fun _ l => 48 :: l) k
def orPad (size L : Nat) : List OR := [⟨20, [.sym 1], .int .i64 (Int.ofNat L)⟩, ⟨0, [.str (bytesZ (Nat.sub size L)), .sym 1], .sym 2⟩]
def krPad (size L : Nat) : List KR := [⟨fItoa, [.sym 0], ⟨.sym 1, []⟩⟩, ⟨fRepeat, [.str [48], .int .i64 (Int.ofNat (Nat.sub size L))], ⟨.str (bytesZ (Nat.sub size L)), []⟩⟩]
theorem runPad : allB (fun p => rowRun (EV.askH 9 (orPad p.1 p.2) (memoKH glC (krPad p.1 p.2))) glC fPadded [.sym 0, .int .i64 (Int.ofNat p.1)] 500 (.sym 2)) [(4, 1), (4, 2), (4, 3), (4, 4), (2, 1), (2, 2)] = true := by kernel_rfl

/-! ### Text, Parse: their runs -/
def mmS (mm : Nat) : List Nat := [Nat.add 48 (Nat.div mm 10), Nat.add 48 (Nat.mod mm 10)]
def orText (mm : Nat) : List OR := [⟨11, [.sym 1, .int .i64 0], .bool false⟩, ⟨0, [.sym 3, .str [45]], .sym 5⟩, ⟨0, [.sym 5, .str (mmS mm)], .sym 6⟩, ⟨0, [.sym 6, .str [45]], .sym 7⟩, ⟨0, [.sym 7, .sym 4], .sym 8⟩]
def krText (mm : Nat) : List KR := [⟨fDate, [.sym 0], ⟨.tuple [.sym 1, .int .i64 (Int.ofNat mm), .sym 2], []⟩⟩, ⟨fPadded, [.sym 1, .int .i64 4], ⟨.sym 3, []⟩⟩, ⟨fPadded, [.int .i64 (Int.ofNat mm), .int .i64 2], ⟨.str (mmS mm), []⟩⟩, ⟨fPadded, [.sym 2, .int .i64 2], ⟨.sym 4, []⟩⟩]
theorem runText : allB (fun mm => rowRun (EV.askH 9 (orText mm) (memoKH glC (krText mm))) glC fText [.sym 0] 500 (.sym 8)) months12 = true := by kernel_rfl
def orParse (mm : Nat) : List OR := [⟨20, [.sym 8], .int .i64 10⟩, ⟨21, [.sym 8, .int .i64 4], .int .u8 45⟩, ⟨21, [.sym 8, .int .i64 7], .int .u8 45⟩, ⟨24, [.sym 8, .int .i64 4], .sym 3⟩, ⟨22, [.sym 8, .int .i64 5, .int .i64 7], .str (mmS mm)⟩, ⟨23, [.sym 8, .int .i64 8], .sym 4⟩, ⟨12, [.sym 8, .sym 8], .bool false⟩]
def krParse (mm : Nat) : List KR := [⟨fAtoi, [.sym 3], ⟨.tuple [.sym 1, .nilIface], []⟩⟩, ⟨fAtoi, [.str (mmS mm)], ⟨.tuple [.int .i64 (Int.ofNat mm), .nilIface], []⟩⟩, ⟨fAtoi, [.sym 4], ⟨.tuple [.sym 2, .nilIface], []⟩⟩, ⟨fOf, [.sym 1, .int .i64 (Int.ofNat mm), .sym 2], ⟨.tuple [.sym 0, .bool true], []⟩⟩, ⟨fText, [.sym 0], ⟨.sym 8, []⟩⟩]
theorem runParse : allB (fun mm => rowRun (EV.askH 9 (orParse mm) (memoKH glC (krParse mm))) glC fParse [.sym 8] 500 (.tuple [.sym 0, .bool true])) months12 = true := by kernel_rfl
end
end Go.Proofs.YtnnhijfbdkokkaaGreatDoor
