/- A request's bytes, decoded and encoded again: the runs on symbols. No condition. -/
import Derived.Test.YtgbflpajaihmmaaGreatDoorRk19
import Derived.Test.YtgbflpajaihmmaaGreatDoorCh
import Derived.Test.YtgbflpajaihmmaaGreatDoorE12
namespace Go.Proofs.YtgbflpajaihmmaaGreatDoor
open Go Go.Eng Go.RowKit
noncomputable section
set_option maxRecDepth 100000

/-- A list's member. -/
def pick {α : Type} (z : α) (l : List α) : Nat → α := List.rec (motive := fun _ => Nat → α) (fun _ => z) (fun x _ ih i => Nat.rec (motive := fun _ => α) x (fun j _ => ih j) i) l
def wordsB : List (List Nat) := [[112, 97, 114, 115, 101], [100, 101, 115, 99, 114, 105, 98, 101], [112, 114, 101, 118, 105, 101, 119], [99, 104, 101, 99, 107]]
def localesB : List (List Nat) := [[101, 110], [100, 101], [102, 114], [112, 108], [120, 120], [255]]
def wordA (k : Nat) : AV := .str (pick [] wordsB k)
def locA (l : Nat) : AV := .str (pick [] localesB l)
/-- A request's fields ahead of its rest. -/
def fieldsA (k l : Nat) : List AV := pick [] [[wordA 0, locA l, .sym 21], [wordA 1, locA l], [wordA 2, locA l, .sym 21, .sym 22, .sym 23, .sym 24, .sym 25], [wordA 3]] k
def preA (k l : Nat) : List Nat := pick [] [pick [] wordsB k ++ 32 :: (pick [] localesB l ++ [32]), pick [] wordsB k ++ 32 :: (pick [] localesB l ++ [32]), pick [] wordsB k ++ 32 :: (pick [] localesB l ++ [32]), pick [] wordsB k ++ [32]] k
def orDay (j : Nat) : List OR := [⟨4, [.sym (Nat.add 2 j), .int .u32 3652059], .sym (Nat.add 10 (Nat.mul 3 j))⟩, ⟨28028, [.sym (Nat.add 10 (Nat.mul 3 j))], .sym (Nat.add 11 (Nat.mul 3 j))⟩, ⟨0, [.int .i64 1, .sym (Nat.add 11 (Nat.mul 3 j))], .sym (Nat.add 12 (Nat.mul 3 j))⟩, ⟨12, [.sym (Nat.add 12 (Nat.mul 3 j)), .sym (Nat.add 12 (Nat.mul 3 j))], .bool false⟩]
def krDay (j : Nat) : List KR := [⟨56, [.sym (Nat.add 12 (Nat.mul 3 j))], ⟨.sym (Nat.add 21 j), []⟩⟩, ⟨55, [.sym (Nat.add 21 j)], ⟨.tuple [.sym (Nat.add 12 (Nat.mul 3 j)), .bool true], []⟩⟩]
def orNum (j : Nat) : List OR := [⟨28003, [.sym (Nat.add 5 j)], .sym (Nat.add 19 j)⟩, ⟨11, [.sym (Nat.add 24 j), .sym (Nat.add 24 j)], .bool true⟩, ⟨16, [.sym (Nat.add 19 j), .int .i64 0], .bool true⟩, ⟨12, [.sym (Nat.add 19 j), .sym (Nat.add 19 j)], .bool false⟩]
def krNum (j : Nat) : List KR := [⟨40, [.sym (Nat.add 19 j)], ⟨.sym (Nat.add 24 j), []⟩⟩, ⟨22, [.sym (Nat.add 24 j)], ⟨.tuple [.sym (Nat.add 19 j), .nilIface], []⟩⟩]
def daysOf (k : Nat) : List Nat := pick [] [[0], [], [0, 1, 2], []] k
def numsOf (k : Nat) : List Nat := pick [] [[], [], [0, 1], []] k
def catR (l : List (List OR)) : List OR := List.rec (motive := fun _ => List OR) [] (fun x _ ih => x ++ ih) l
def catK (l : List (List KR)) : List KR := List.rec (motive := fun _ => List KR) [] (fun x _ ih => x ++ ih) l
/-- What is cut off. -/
def krCuts (z i : Nat) (l : List AV) : List KR := List.rec (motive := fun _ => Nat → List KR) (fun _ => []) (fun a r ih i => ⟨52, [.sym i, .str [32]], ⟨.tuple [a, List.rec (motive := fun _ => AV) (.sym z) (fun _ _ _ => .sym (Nat.succ i)) r, .bool true], []⟩⟩ :: ih (Nat.succ i)) l i
/-- What is written, one behind the other. -/
def orOut (i : Nat) (a : AV) (l : List AV) : List OR := List.rec (motive := fun _ => Nat → AV → List OR) (fun _ a => [⟨0, [a, .sym 7], .sym 31⟩]) (fun b _ ih i a => ⟨0, [a, b], .sym i⟩ :: ⟨0, [.sym i, .str [32]], .sym (Nat.succ i)⟩ :: ih (Nat.succ (Nat.succ i)) (.sym (Nat.succ i))) l i a
def outsA (k : Nat) : List AV := pick [] [[.sym 21], [], [.sym 21, .sym 22, .sym 23, .sym 24, .sym 25], []] k
def orB (k l : Nat) : List OR :=
  [⟨20, [.sym 7], .sym 29⟩, ⟨15, [.sym 29, .int .i64 500], .bool false⟩, ⟨4, [.sym 0, .int .u8 4], .int .u8 (Int.ofNat k)⟩, ⟨4, [.sym 1, .int .u8 6], .int .u8 (Int.ofNat l)⟩, ⟨20, [.sym 31], .sym 28⟩, ⟨15, [.sym 28, .int .i64 8192], .bool false⟩, ⟨11, [.sym 7, .sym 7], .bool true⟩, ⟨11, [.sym 31, .sym 31], .bool true⟩] ++
  (catR ((daysOf k).map orDay) ++ (catR ((numsOf k).map orNum) ++ orOut 50 (.str (preA k l)) (outsA k)))
def krB (k l : Nat) : List KR := krCuts 7 31 (fieldsA k l) ++ (catK ((daysOf k).map krDay) ++ catK ((numsOf k).map krNum))
def jrB (k l : Nat) : List JR := [⟨fieldsA k l ++ [.sym 7], .sym 31⟩]
def mmB (k l : Nat) : FuncId → List AV → St → Option (AV × St) := memoOr (memoI gl [(24, yes)]) (memoOr (memoJ 33 [32] (jrB k l)) (memoK gl (krB k l)))
def EB (k l : Nat) : Env := EV.ask 9 (orB k l) (mmB k l)
def EBH (k l : Nat) : Env := EV.askH 9 (orB k l) (memoOr (memoI gl [(24, yes)]) (memoOr (memoJ 33 [32] (jrB k l)) (memoKH gl (krB k l))))
theorem EBH_eq (k l : Nat) : EBH k l = EB k l := by
  unfold EBH EB mmB
  rw [Env.askH_eq, memoKH_eq]
def qA : AV := .agg [.sym 0, .sym 1, .sym 2, .sym 3, .sym 4, .sym 5, .sym 6, .sym 7]
def locs6 : List Nat := [0, 1, 2, 3, 4, 5]
theorem runB0 : allB (fun l => rowRunG (EBH 0 l) gl 13 [qA] 1000 (.bool true)) locs6 = true := by kernel_rfl
theorem runB1 : allB (fun l => rowRunG (EBH 1 l) gl 13 [qA] 1000 (.bool true)) locs6 = true := by kernel_rfl
theorem runB2 : allB (fun l => rowRunG (EBH 2 l) gl 13 [qA] 2000 (.bool true)) locs6 = true := by kernel_rfl
theorem runB3 : allB (fun l => rowRunG (EBH 3 l) gl 13 [qA] 1000 (.bool true)) locs6 = true := by kernel_rfl
theorem runB {k l : Nat} (hk : k < 4) (hl : l < 6) : ∃ n, rowRunG (EB k l) gl 13 [qA] n (.bool true) = true := by
  have hm : l ∈ locs6 := by
    have : ∀ r, r < 6 → r ∈ locs6 := by decide
    exact this l hl
  rw [← EBH_eq]
  match k, hk with
  | 0, _ => exact ⟨_, allB_spec runB0 l hm⟩
  | 1, _ => exact ⟨_, allB_spec runB1 l hm⟩
  | 2, _ => exact ⟨_, allB_spec runB2 l hm⟩
  | 3, _ => exact ⟨_, allB_spec runB3 l hm⟩
/-- The rest is too long. -/
def orBX : List OR := [⟨20, [.sym 7], .sym 29⟩, ⟨15, [.sym 29, .int .i64 500], .bool true⟩]
def EBX : Env := EV.ask 9 orBX (memoI gl [(24, yes)])
theorem runBX : rowRunG EBX gl 13 [qA] 1000 (.bool true) = true := by kernel_rfl
end
end Go.Proofs.YtgbflpajaihmmaaGreatDoor
