/- A request's bytes, something else in the place of something: the runs on symbols. No condition. -/
import Derived.Test.YtnnhijfbdkokkaaGreatDoorUl
namespace Go.Proofs.YtnnhijfbdkokkaaGreatDoor
open Go Go.Eng Go.RowKit
set_option maxRecDepth 100000
noncomputable section

/-! The symbols from 100 on: 100 .. the request, 110 .. its days and numbers, 121 .. their texts, 131 its bytes, 140 .. the place, how much, what; 144 .. lengths and parts. -/
def fieldsQ (k l : Nat) : List AV := pick [] [[wordA 0, locA l, .sym 121], [wordA 1, locA l], [wordA 2, locA l, .sym 121, .sym 122, .sym 123, .sym 124, .sym 125], [wordA 3]] k
def orDayQ (j : Nat) : List OR := [⟨4, [.sym (Nat.add 102 j), .int .u32 3652059], .sym (Nat.add 110 (Nat.mul 3 j))⟩, ⟨cv tU32 tDay, [.sym (Nat.add 110 (Nat.mul 3 j))], .sym (Nat.add 111 (Nat.mul 3 j))⟩, ⟨0, [.int .i64 1, .sym (Nat.add 111 (Nat.mul 3 j))], .sym (Nat.add 112 (Nat.mul 3 j))⟩]
def krDayQ (j : Nat) : List KR := [⟨fText, [.sym (Nat.add 112 (Nat.mul 3 j))], ⟨.sym (Nat.add 121 j), []⟩⟩]
def orNumQ (j : Nat) : List OR := [⟨cv tU32 tInt, [.sym (Nat.add 105 j)], .sym (Nat.add 119 j)⟩]
def krNumQ (j : Nat) : List KR := [⟨fItoa, [.sym (Nat.add 119 j)], ⟨.sym (Nat.add 124 j), []⟩⟩]
def qQ : AV := .agg [.sym 100, .sym 101, .sym 102, .sym 103, .sym 104, .sym 105, .sym 106, .sym 107]
def argT : List AV := [qQ, .sym 140, .sym 141, .sym 142]
def orHT (tl ml : Bool) : List OR := [⟨20, [.sym 107], .sym 129⟩, ⟨15, [.sym 129, .int .i64 300], .bool tl⟩, ⟨20, [.sym 142], .sym 143⟩, ⟨15, [.sym 143, .int .i64 40], .bool ml⟩]
def orMT (k l : Nat) : List OR := [⟨4, [.sym 100, .int .u8 4], .int .u8 (Int.ofNat k)⟩, ⟨4, [.sym 101, .int .u8 6], .int .u8 (Int.ofNat l)⟩]
abbrev tU16 : Nat := 56
def orCT : List OR := [⟨20, [.sym 131], .sym 144⟩, ⟨0, [.sym 144, .int .i64 1], .sym 145⟩, ⟨cv tU16 tInt, [.sym 140], .sym 146⟩, ⟨4, [.sym 146, .sym 145], .sym 147⟩, ⟨24, [.sym 131, .sym 147], .sym 148⟩, ⟨0, [.sym 148, .sym 142], .sym 149⟩, ⟨4, [.sym 141, .int .u8 6], .sym 150⟩, ⟨cv tU8 tInt, [.sym 150], .sym 151⟩,
  ⟨0, [.sym 147, .sym 151], .sym 152⟩, ⟨25, [.sym 152, .sym 144], .sym 153⟩, ⟨23, [.sym 131, .sym 153], .sym 154⟩, ⟨0, [.sym 149, .sym 154], .sym 0⟩]
def orT (k l : Nat) : List OR := orHT false false ++ (orMT k l ++ (orCT ++ (catR ((daysOf k).map orDayQ) ++ (catR ((numsOf k).map orNumQ) ++ eqO))))
def krT (k q : Nat) : List KR := catK ((daysOf k).map krDayQ) ++ (catK ((numsOf k).map krNumQ) ++ decK q)
def jrT (k l : Nat) : List JR := [⟨fieldsQ k l ++ [.sym 107], .sym 131⟩]
def ETs (o : List OR) (j : List JR) (k : List KR) : Env := Ee.askM 9 o [] (memoOr (memoI gl tabs19) (memoOr (memoJ fJoin [32] j) (memoKH gl k)))
def runT (k l q : Nat) : Bool := rowRunG (ETs (orT k l) (jrT k l) (krT k q)) gl fWireSpoilt argT 3000 (.bool true)
theorem runT0 : allB (fun l => allB (fun q => runT 0 l q) five5) locs6 = true := by kernel_rfl
theorem runT1 : allB (fun l => allB (fun q => runT 1 l q) five5) locs6 = true := by kernel_rfl
theorem runT2 : allB (fun l => allB (fun q => runT 2 l q) five5) locs6 = true := by kernel_rfl
theorem runT3 : allB (fun l => allB (fun q => runT 3 l q) five5) locs6 = true := by kernel_rfl
theorem runTx : ∀ tl ml : Bool, (tl || ml) = true → rowRunG (ETs (orHT tl ml) [] []) gl fWireSpoilt argT 1000 (.bool true) = true := by
  intro tl ml h
  cases tl <;> cases ml <;> first | (cases h; done) | kernel_rfl
end
end Go.Proofs.YtnnhijfbdkokkaaGreatDoor
