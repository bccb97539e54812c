/- Any word as a request's: the runs on symbols, cut at the loop over the six strings. No condition. -/
import Derived.Test.YtnnhijfbdkokkaaGreatDoorUl
namespace Go.Proofs.YtnnhijfbdkokkaaGreatDoor
open Go Go.Eng Go.RowKit
set_option maxRecDepth 100000
noncomputable section

/-! The symbols from 100 on: 100, 101 the two texts, 102 the number, 110 .. the six strings, 120 .. their beginnings, 130 .. lengths. -/
def wordsW : List (List Nat) := [[112, 114, 101, 118, 105, 101, 119], [101, 110], [50, 48, 50, 54, 45, 49, 49, 45, 49, 54], [50, 48, 50, 54, 45, 49, 49, 45, 49, 55], [48, 48, 48, 49, 45, 48, 49, 45, 48, 49], [53], [53, 48]]
def lW : List AV := wordsW.map AV.str ++ [.sym 101]
def takeW {α : Type} (n : Nat) (l : List α) : List α := List.rec (motive := fun _ => Nat → List α) (fun _ => []) (fun x _ ih n => Nat.rec (motive := fun _ => List α) [] (fun k _ => x :: ih k) n) l n
def sayP : List Nat := [112, 97, 114, 115, 101, 32, 101, 110, 32]
def sayD : List Nat := [100, 101, 115, 99, 114, 105, 98, 101, 32]
def orL0 (b : Bool) : List OR := [⟨20, [.sym 100], .sym 130⟩, ⟨20, [.sym 101], .sym 131⟩, ⟨0, [.sym 130, .sym 131], .sym 132⟩, ⟨15, [.sym 132, .int .i64 200], .bool b⟩]
def orL1 (i j : Nat) : List OR := [⟨4, [.sym 102, .int .u8 8], .int .u8 (Int.ofNat i)⟩, ⟨4, [.sym 102, .int .u8 7], .int .u8 (Int.ofNat j)⟩,
  ⟨0, [.sym 100, .str [32]], .sym 120⟩, ⟨0, [.sym 120, .sym 101], .sym 110⟩, ⟨0, [.str sayP, .sym 100], .sym 121⟩, ⟨0, [.sym 121, .str [32]], .sym 122⟩, ⟨0, [.sym 122, .sym 101], .sym 112⟩,
  ⟨0, [.str sayD, .sym 100], .sym 123⟩, ⟨0, [.sym 123, .str [32]], .sym 124⟩, ⟨0, [.sym 124, .sym 101], .sym 113⟩]
def jrW (i j : Nat) : List JR := [⟨takeW (Nat.succ i) lW, .sym 114⟩, ⟨takeW (Nat.succ j) lW ++ [.sym 100], .sym 115⟩]
def EW0 (i j : Nat) : Env := Ee.askM 9 (orL0 false ++ orL1 i j) [] (memoOr (memoI gl tabs19) (memoOr (memoJ fJoin [32] (jrW i j)) (memoKH gl [])))
def sixW : List Nat := [0, 1, 2, 3, 4, 5]
def cellsW (q : Nat) : List AV := sixW.map fun r => bif_ (Nat.beq r q) (.sym 0) (.sym (Nat.add 110 r))
def bsW (q : Nat) : List Blk := [.cells (cellsW q) tStr true]
def t2W : AV := .tuple [.agg [.unk, .unk, .unk, .unk, .unk], .unk]
def a5W : AV := .agg [.unk, .unk, .unk, .unk, .unk]
def keepW (q : Nat) : List (Nat × AV) := [(57, .slice 1000 0 6 6 1), (58, .int .i64 6), (59, .int .i64 (Int.ofNat q))] ++ bif_ (Nat.beq q 0) [] [(63, t2W), (65, t2W), (66, a5W), (68, t2W), (70, t2W), (71, a5W), (77, a5W), (78, a5W)]
def thS : List (Nat × AV) := [(0, .sym 110), (111, .sym 100), (112, .sym 112), (113, .sym 113), (114, .sym 114), (115, .sym 115)]
def thW (q : Nat) : List (Nat × AV) := sixW.map fun r => bif_ (Nat.beq r q) (Nat.add 110 r, .sym 0) (bif_ (Nat.beq r (Nat.succ q)) (0, .sym (Nat.add 110 r)) (Nat.add 110 r, .sym (Nat.add 110 r)))
def argW : List AV := [.sym 100, .sym 101, .sym 102]
def tpW (i j : Nat) : Option (List AItem) := bnd (startM (EW0 i j) (stOf gl) fWireWords argW) (toPat (EW0 i j) gl [] 2 3000 0 fWireWords 83 (keepW 0) (bsW 0) thS [1005])
def tdW : List AItem := match tpW 0 0 with
  | some t => t
  | none => []
def pW (q : Nat) : AM := patM gl [] fWireWords 83 tdW (keepW q) (bsW q)
def EIt (q : Nat) : Env := Ee.askM 9 eqO [] (memoKH gl (decK q))
def tpI (q im : Nat) : Option (List AItem) := toPat (EIt im) gl [] 2 3000 0 fWireWords 83 (keepW (Nat.succ q)) (bsW (Nat.succ q)) (thW q) [1000] (pW q)
theorem tdW_noD : noD tdW = true := by kernel_rfl
theorem runW_end : allB (fun im => retIs (EIt im) fWireWords (.bool true) (runS (EIt im) doneA 3000 (pW 5))) five5 = true := by kernel_rfl
theorem runW_long : rowRunG (Ee.askM 9 (orL0 true) [] (memoOr (memoI gl tabs19) (memoKH gl []))) gl fWireWords argW 3000 (.bool true) = true := by kernel_rfl
theorem runW_00 : tpW 0 0 = some tdW := by kernel_rfl
theorem runW_01 : tpW 0 1 = some tdW := by kernel_rfl
theorem runW_02 : tpW 0 2 = some tdW := by kernel_rfl
theorem runW_03 : tpW 0 3 = some tdW := by kernel_rfl
theorem runW_04 : tpW 0 4 = some tdW := by kernel_rfl
theorem runW_05 : tpW 0 5 = some tdW := by kernel_rfl
theorem runW_06 : tpW 0 6 = some tdW := by kernel_rfl
theorem runW_10 : tpW 1 0 = some tdW := by kernel_rfl
theorem runW_11 : tpW 1 1 = some tdW := by kernel_rfl
theorem runW_12 : tpW 1 2 = some tdW := by kernel_rfl
theorem runW_13 : tpW 1 3 = some tdW := by kernel_rfl
theorem runW_14 : tpW 1 4 = some tdW := by kernel_rfl
theorem runW_15 : tpW 1 5 = some tdW := by kernel_rfl
theorem runW_16 : tpW 1 6 = some tdW := by kernel_rfl
theorem runW_20 : tpW 2 0 = some tdW := by kernel_rfl
theorem runW_21 : tpW 2 1 = some tdW := by kernel_rfl
theorem runW_22 : tpW 2 2 = some tdW := by kernel_rfl
theorem runW_23 : tpW 2 3 = some tdW := by kernel_rfl
theorem runW_24 : tpW 2 4 = some tdW := by kernel_rfl
theorem runW_25 : tpW 2 5 = some tdW := by kernel_rfl
theorem runW_26 : tpW 2 6 = some tdW := by kernel_rfl
theorem runW_30 : tpW 3 0 = some tdW := by kernel_rfl
theorem runW_31 : tpW 3 1 = some tdW := by kernel_rfl
theorem runW_32 : tpW 3 2 = some tdW := by kernel_rfl
theorem runW_33 : tpW 3 3 = some tdW := by kernel_rfl
theorem runW_34 : tpW 3 4 = some tdW := by kernel_rfl
theorem runW_35 : tpW 3 5 = some tdW := by kernel_rfl
theorem runW_36 : tpW 3 6 = some tdW := by kernel_rfl
theorem runW_40 : tpW 4 0 = some tdW := by kernel_rfl
theorem runW_41 : tpW 4 1 = some tdW := by kernel_rfl
theorem runW_42 : tpW 4 2 = some tdW := by kernel_rfl
theorem runW_43 : tpW 4 3 = some tdW := by kernel_rfl
theorem runW_44 : tpW 4 4 = some tdW := by kernel_rfl
theorem runW_45 : tpW 4 5 = some tdW := by kernel_rfl
theorem runW_46 : tpW 4 6 = some tdW := by kernel_rfl
theorem runW_50 : tpW 5 0 = some tdW := by kernel_rfl
theorem runW_51 : tpW 5 1 = some tdW := by kernel_rfl
theorem runW_52 : tpW 5 2 = some tdW := by kernel_rfl
theorem runW_53 : tpW 5 3 = some tdW := by kernel_rfl
theorem runW_54 : tpW 5 4 = some tdW := by kernel_rfl
theorem runW_55 : tpW 5 5 = some tdW := by kernel_rfl
theorem runW_56 : tpW 5 6 = some tdW := by kernel_rfl
theorem runW_60 : tpW 6 0 = some tdW := by kernel_rfl
theorem runW_61 : tpW 6 1 = some tdW := by kernel_rfl
theorem runW_62 : tpW 6 2 = some tdW := by kernel_rfl
theorem runW_63 : tpW 6 3 = some tdW := by kernel_rfl
theorem runW_64 : tpW 6 4 = some tdW := by kernel_rfl
theorem runW_65 : tpW 6 5 = some tdW := by kernel_rfl
theorem runW_66 : tpW 6 6 = some tdW := by kernel_rfl
theorem runW_70 : tpW 7 0 = some tdW := by kernel_rfl
theorem runW_71 : tpW 7 1 = some tdW := by kernel_rfl
theorem runW_72 : tpW 7 2 = some tdW := by kernel_rfl
theorem runW_73 : tpW 7 3 = some tdW := by kernel_rfl
theorem runW_74 : tpW 7 4 = some tdW := by kernel_rfl
theorem runW_75 : tpW 7 5 = some tdW := by kernel_rfl
theorem runW_76 : tpW 7 6 = some tdW := by kernel_rfl
theorem runW_s {i j : Nat} (hi : i < 8) (hj : j < 7) : tpW i j = some tdW := by
  match i, hi, j, hj with
  | 0, _, 0, _ => exact runW_00
  | 0, _, 1, _ => exact runW_01
  | 0, _, 2, _ => exact runW_02
  | 0, _, 3, _ => exact runW_03
  | 0, _, 4, _ => exact runW_04
  | 0, _, 5, _ => exact runW_05
  | 0, _, 6, _ => exact runW_06
  | 1, _, 0, _ => exact runW_10
  | 1, _, 1, _ => exact runW_11
  | 1, _, 2, _ => exact runW_12
  | 1, _, 3, _ => exact runW_13
  | 1, _, 4, _ => exact runW_14
  | 1, _, 5, _ => exact runW_15
  | 1, _, 6, _ => exact runW_16
  | 2, _, 0, _ => exact runW_20
  | 2, _, 1, _ => exact runW_21
  | 2, _, 2, _ => exact runW_22
  | 2, _, 3, _ => exact runW_23
  | 2, _, 4, _ => exact runW_24
  | 2, _, 5, _ => exact runW_25
  | 2, _, 6, _ => exact runW_26
  | 3, _, 0, _ => exact runW_30
  | 3, _, 1, _ => exact runW_31
  | 3, _, 2, _ => exact runW_32
  | 3, _, 3, _ => exact runW_33
  | 3, _, 4, _ => exact runW_34
  | 3, _, 5, _ => exact runW_35
  | 3, _, 6, _ => exact runW_36
  | 4, _, 0, _ => exact runW_40
  | 4, _, 1, _ => exact runW_41
  | 4, _, 2, _ => exact runW_42
  | 4, _, 3, _ => exact runW_43
  | 4, _, 4, _ => exact runW_44
  | 4, _, 5, _ => exact runW_45
  | 4, _, 6, _ => exact runW_46
  | 5, _, 0, _ => exact runW_50
  | 5, _, 1, _ => exact runW_51
  | 5, _, 2, _ => exact runW_52
  | 5, _, 3, _ => exact runW_53
  | 5, _, 4, _ => exact runW_54
  | 5, _, 5, _ => exact runW_55
  | 5, _, 6, _ => exact runW_56
  | 6, _, 0, _ => exact runW_60
  | 6, _, 1, _ => exact runW_61
  | 6, _, 2, _ => exact runW_62
  | 6, _, 3, _ => exact runW_63
  | 6, _, 4, _ => exact runW_64
  | 6, _, 5, _ => exact runW_65
  | 6, _, 6, _ => exact runW_66
  | 7, _, 0, _ => exact runW_70
  | 7, _, 1, _ => exact runW_71
  | 7, _, 2, _ => exact runW_72
  | 7, _, 3, _ => exact runW_73
  | 7, _, 4, _ => exact runW_74
  | 7, _, 5, _ => exact runW_75
  | 7, _, 6, _ => exact runW_76
theorem runI_00 : tpI 0 0 = some tdW := by kernel_rfl
theorem runI_01 : tpI 0 1 = some tdW := by kernel_rfl
theorem runI_02 : tpI 0 2 = some tdW := by kernel_rfl
theorem runI_03 : tpI 0 3 = some tdW := by kernel_rfl
theorem runI_04 : tpI 0 4 = some tdW := by kernel_rfl
theorem runI_10 : tpI 1 0 = some tdW := by kernel_rfl
theorem runI_11 : tpI 1 1 = some tdW := by kernel_rfl
theorem runI_12 : tpI 1 2 = some tdW := by kernel_rfl
theorem runI_13 : tpI 1 3 = some tdW := by kernel_rfl
theorem runI_14 : tpI 1 4 = some tdW := by kernel_rfl
theorem runI_20 : tpI 2 0 = some tdW := by kernel_rfl
theorem runI_21 : tpI 2 1 = some tdW := by kernel_rfl
theorem runI_22 : tpI 2 2 = some tdW := by kernel_rfl
theorem runI_23 : tpI 2 3 = some tdW := by kernel_rfl
theorem runI_24 : tpI 2 4 = some tdW := by kernel_rfl
theorem runI_30 : tpI 3 0 = some tdW := by kernel_rfl
theorem runI_31 : tpI 3 1 = some tdW := by kernel_rfl
theorem runI_32 : tpI 3 2 = some tdW := by kernel_rfl
theorem runI_33 : tpI 3 3 = some tdW := by kernel_rfl
theorem runI_34 : tpI 3 4 = some tdW := by kernel_rfl
theorem runI_40 : tpI 4 0 = some tdW := by kernel_rfl
theorem runI_41 : tpI 4 1 = some tdW := by kernel_rfl
theorem runI_42 : tpI 4 2 = some tdW := by kernel_rfl
theorem runI_43 : tpI 4 3 = some tdW := by kernel_rfl
theorem runI_44 : tpI 4 4 = some tdW := by kernel_rfl
theorem runI_s {q im : Nat} (hq : q < 5) (hi : im < 5) : tpI q im = some tdW := by
  match q, hq, im, hi with
  | 0, _, 0, _ => exact runI_00
  | 0, _, 1, _ => exact runI_01
  | 0, _, 2, _ => exact runI_02
  | 0, _, 3, _ => exact runI_03
  | 0, _, 4, _ => exact runI_04
  | 1, _, 0, _ => exact runI_10
  | 1, _, 1, _ => exact runI_11
  | 1, _, 2, _ => exact runI_12
  | 1, _, 3, _ => exact runI_13
  | 1, _, 4, _ => exact runI_14
  | 2, _, 0, _ => exact runI_20
  | 2, _, 1, _ => exact runI_21
  | 2, _, 2, _ => exact runI_22
  | 2, _, 3, _ => exact runI_23
  | 2, _, 4, _ => exact runI_24
  | 3, _, 0, _ => exact runI_30
  | 3, _, 1, _ => exact runI_31
  | 3, _, 2, _ => exact runI_32
  | 3, _, 3, _ => exact runI_33
  | 3, _, 4, _ => exact runI_34
  | 4, _, 0, _ => exact runI_40
  | 4, _, 1, _ => exact runI_41
  | 4, _, 2, _ => exact runI_42
  | 4, _, 3, _ => exact runI_43
  | 4, _, 4, _ => exact runI_44
end
end Go.Proofs.YtnnhijfbdkokkaaGreatDoor
