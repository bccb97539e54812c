/- A day's text by the document: its runs, by language, weekday and month. No condition. -/
import Derived.Test.YtnnhijfbdkokkaaGreatDoorMc
namespace Go.Proofs.YtnnhijfbdkokkaaGreatDoor
open Go Go.Eng Go.RowKit
noncomputable section
set_option maxRecDepth 100000

def sgLy (k n y mm d : Nat) : Nat → Value
  | 0 => .int .i64 (n : Int)
  | 1 => .int .i64 (y : Int)
  | 2 => .int .i64 (d : Int)
  | 3 => strV (Lib.decDigits d)
  | 4 => strV (Lib.decDigits y)
  | 9 => strV (lineT k n y mm d)
  | 10 => .int .i64 ((n : Int) + 6)
  | _ => .nilIface
def orLy (wd : Nat) : List OR := [⟨11, [.sym 1, .int .i64 0], .bool false⟩, ⟨cv tDay tInt, [.sym 0], .sym 0⟩, ⟨0, [.sym 0, .int .i64 6], .sym 10⟩, ⟨4, [.sym 10, .int .i64 7], .int .i64 (Int.ofNat wd)⟩]
def krLy (mm : Nat) : List KR := [⟨fDate1, [.sym 0], ⟨.tuple [.sym 1, .int .i64 (Int.ofNat mm), .sym 2], []⟩⟩, ⟨fItoa, [.sym 2], ⟨.sym 3, []⟩⟩, ⟨fItoa, [.sym 1], ⟨.sym 4, []⟩⟩]
def jrLy (k wd mm : Nat) : List JR := [⟨[.str (wdA k wd), .sym 3, .str (moA k (Nat.pred mm)), .sym 4], .sym 9⟩]
def ELy (V : World → Prop) (k wd mm : Nat) : Env := ({ E0 with V := V } : Env).askH 9 (orLy wd) (memoOr (memoJ fJoin [32] (jrLy k wd mm)) (memoKH gl (krLy mm)))
def runLy1 (V : World → Prop) (k wd mm : Nat) : Bool := rowRunX (ELy V k wd mm) gl (tabX k) fText18 [.ptr xN 0, .sym 0] 2000 (.sym 9)
theorem runLy0a (V : World → Prop) : allB (fun wd => allB (runLy1 V 0 wd) months12) [0, 1, 2] = true := by kernel_rfl
theorem runLy0b (V : World → Prop) : allB (fun wd => allB (runLy1 V 0 wd) months12) [3, 4] = true := by kernel_rfl
theorem runLy0c (V : World → Prop) : allB (fun wd => allB (runLy1 V 0 wd) months12) [5, 6] = true := by kernel_rfl
theorem runLy1a (V : World → Prop) : allB (fun wd => allB (runLy1 V 1 wd) months12) [0, 1, 2] = true := by kernel_rfl
theorem runLy1b (V : World → Prop) : allB (fun wd => allB (runLy1 V 1 wd) months12) [3, 4] = true := by kernel_rfl
theorem runLy1c (V : World → Prop) : allB (fun wd => allB (runLy1 V 1 wd) months12) [5, 6] = true := by kernel_rfl
theorem runLy2a (V : World → Prop) : allB (fun wd => allB (runLy1 V 2 wd) months12) [0, 1, 2] = true := by kernel_rfl
theorem runLy2b (V : World → Prop) : allB (fun wd => allB (runLy1 V 2 wd) months12) [3, 4] = true := by kernel_rfl
theorem runLy2c (V : World → Prop) : allB (fun wd => allB (runLy1 V 2 wd) months12) [5, 6] = true := by kernel_rfl
theorem runLy3a (V : World → Prop) : allB (fun wd => allB (runLy1 V 3 wd) months12) [0, 1, 2] = true := by kernel_rfl
theorem runLy3b (V : World → Prop) : allB (fun wd => allB (runLy1 V 3 wd) months12) [3, 4] = true := by kernel_rfl
theorem runLy3c (V : World → Prop) : allB (fun wd => allB (runLy1 V 3 wd) months12) [5, 6] = true := by kernel_rfl
theorem runLy (V : World → Prop) {k wd mm : Nat} (hk : k < 4) (hw : wd < 7) (m1 : 1 ≤ mm) (m2 : mm ≤ 12) : runLy1 V k wd mm = true := by
  have hm := months12_mem m1 m2
  have a : wd < 3 → wd ∈ [0, 1, 2] := by
    intro h
    have : ∀ z, z < 3 → z ∈ [0, 1, 2] := by decide
    exact this wd h
  have b : 3 ≤ wd → wd < 5 → wd ∈ [3, 4] := by
    intro h1 h2
    have : ∀ z, z < 5 → 3 ≤ z → z ∈ [3, 4] := by decide
    exact this wd h2 h1
  have c : 5 ≤ wd → wd ∈ [5, 6] := by
    intro h1
    have : ∀ z, z < 7 → 5 ≤ z → z ∈ [5, 6] := by decide
    exact this wd hw h1
  match k, hk with
  | 0, _ =>
    rcases Nat.lt_or_ge wd 3 with h | h
    · exact allB_spec (allB_spec (runLy0a V) wd (a h)) mm hm
    rcases Nat.lt_or_ge wd 5 with h2 | h2
    · exact allB_spec (allB_spec (runLy0b V) wd (b h h2)) mm hm
    · exact allB_spec (allB_spec (runLy0c V) wd (c h2)) mm hm
  | 1, _ =>
    rcases Nat.lt_or_ge wd 3 with h | h
    · exact allB_spec (allB_spec (runLy1a V) wd (a h)) mm hm
    rcases Nat.lt_or_ge wd 5 with h2 | h2
    · exact allB_spec (allB_spec (runLy1b V) wd (b h h2)) mm hm
    · exact allB_spec (allB_spec (runLy1c V) wd (c h2)) mm hm
  | 2, _ =>
    rcases Nat.lt_or_ge wd 3 with h | h
    · exact allB_spec (allB_spec (runLy2a V) wd (a h)) mm hm
    rcases Nat.lt_or_ge wd 5 with h2 | h2
    · exact allB_spec (allB_spec (runLy2b V) wd (b h h2)) mm hm
    · exact allB_spec (allB_spec (runLy2c V) wd (c h2)) mm hm
  | 3, _ =>
    rcases Nat.lt_or_ge wd 3 with h | h
    · exact allB_spec (allB_spec (runLy3a V) wd (a h)) mm hm
    rcases Nat.lt_or_ge wd 5 with h2 | h2
    · exact allB_spec (allB_spec (runLy3b V) wd (b h h2)) mm hm
    · exact allB_spec (allB_spec (runLy3c V) wd (c h2)) mm hm
def krLz : List KR := [⟨fDate1, [.sym 0], ⟨.tuple [.int .i64 0, .int .i64 0, .int .i64 0], []⟩⟩]
def runLz1 (V : World → Prop) (k : Nat) : Bool := rowRunX (({ E0 with V := V } : Env).askH 9 [] (memoKH gl krLz)) gl (tabX k) fText18 [.ptr xN 0, .sym 0] 300 (.str [])
theorem runLz (V : World → Prop) : allB (runLz1 V) k4 = true := by kernel_rfl

end
end Go.Proofs.YtnnhijfbdkokkaaGreatDoor
