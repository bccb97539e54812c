/- A preview's limits: the runs on symbols. No condition. -/
import Derived.Test.YtnnhijfbdkokkaaGreatDoorGa
import Derived.Test.YtnnhijfbdkokkaaGreatDoorDb
namespace Go.Proofs.YtnnhijfbdkokkaaGreatDoor
open Go Go.Eng Go.RowKit
noncomputable section
set_option maxRecDepth 100000

/-! ### expand.In at such a rule, as a known call -/
def memoIn (f : FuncId) (args : List AV) (s : St) : Option (AV × St) := match Nat.beq f fIn with
  | false => none
  | true => match args with
    | [.agg [x0, x1, x2, x3, .slice i o n1 _ _, .slice j p n2 _ _, .nilslice, .nilslice], st, .agg [.int .i64 (.ofNat a), .int .i64 (.ofNat b)]] => match avEqs [x0, x1, x2, x3, st] [.int .i64 3, .int .i64 1, .int .i64 0, .int .i64 366, .int .i64 1] && Nat.beq n1 1 && Nat.beq n2 1 && Nat.ble 1 a && Nat.ble a b && Nat.ble b 3652059 && hasG gl s with
      | true => match s.get i with
        | some (.cells ci _ _) => match s.get j with
          | some (.cells cj _ _) => match nth ci o with
            | some vi => match nth cj p with
              | some vj => match avEq vi (.int .i64 2) && avEq vj (.int .i64 30) with
                | true => some (.nilslice, s)
                | false => none
              | none => none
            | none => none
          | _ => none
        | _ => none
      | false => none
    | _ => none

theorem memoIn_ok {E : Env} (hP : E.P = Tryz.prog) {σ : Nat → Value} {m : Int} (hm : σ kM = .int .i64 m) : MemoOK { E with memo := memoIn } σ := by
  intro f args s v s' hx B ρ w va _ hR hva
  replace hx : memoIn f args s = some (v, s') := hx
  unfold memoIn at hx
  split at hx
  · cases hx
  rename_i hf
  have hf := Nat.eq_of_beq_eq_true hf
  subst hf
  split at hx
  case h_2 => cases hx
  rename_i x0 x1 x2 x3 i o n1 c1 z1 j p n2 c2 z2 st a b
  split at hx
  case h_2 => cases hx
  rename_i hc
  simp only [Bool.and_eq_true] at hc
  obtain ⟨⟨⟨⟨⟨⟨hq, hn1⟩, hn2⟩, ha1⟩, hab⟩, hb3⟩, hg⟩ := hc
  have hq := avEqs_eq _ _ hq
  have hn1 := Nat.eq_of_beq_eq_true hn1
  have hn2 := Nat.eq_of_beq_eq_true hn2
  have ha1 := Nat.le_of_ble_eq_true ha1
  have hab := Nat.le_of_ble_eq_true hab
  have hb3 := Nat.le_of_ble_eq_true hb3
  simp only [List.cons.injEq, and_true] at hq
  obtain ⟨rfl, rfl, rfl, rfl, rfl⟩ := hq
  subst hn1
  subst hn2
  split at hx
  case h_2 => cases hx
  rename_i ci eli wri hsi
  split at hx
  case h_2 => cases hx
  rename_i cj elj wrj hsj
  split at hx
  case h_2 => cases hx
  rename_i vi hvi
  split at hx
  case h_2 => cases hx
  rename_i vj hvj
  split at hx
  case h_2 => cases hx
  rename_i he
  cases hx
  rw [Bool.and_eq_true] at he
  have e1 := avEq_eq _ _ he.1
  have e2 := avEq_eq _ _ he.2
  subst e1
  subst e2
  rw [nth_eq] at hvi hvj
  obtain ⟨v1, r1, q1, ⟨vs, rfl, y0, t0, p0, k0, y1, t1, p1, k1, y2, t2, p2, k2, y3, t3, p3, k3, y4, t4, p4, ⟨L1, a1, d1, hL1, k4, g1, _, g2⟩, y5, t5, p5, ⟨L2, a2, d2, hL2, k5, g3, _, g4⟩, y6, t6, p6, k6, y7, t7, p7, k7, p8⟩, v2, r2, q2, k8, v3, r3, q3, ⟨ws, rfl, u0, s0, z3, k9, u1, s1, z4, k10, z5⟩, q4⟩ := hva
  have k0 : y0 = .int .i64 3 := k0
  have k1 : y1 = .int .i64 1 := k1
  have k2 : y2 = .int .i64 0 := k2
  have k3 : y3 = .int .i64 366 := k3
  have k6 : y6 = .slice none 0 0 := k6
  have k7 : y7 = .slice none 0 0 := k7
  have k8 : v2 = .int .i64 1 := k8
  have k9 : u0 = .int .i64 (Int.ofNat a) := k9
  have k10 : u1 = .int .i64 (Int.ofNat b) := k10
  have p8 : t7 = [] := p8
  have z5 : s1 = [] := z5
  have q4 : r3 = [] := q4
  obtain ⟨rfl, _⟩ := g2.resolve_left (by omega)
  obtain ⟨rfl, _⟩ := g4.resolve_left (by omega)
  subst k0 k1 k2 k3 k4 k5 k6 k7 k8 k9 k10 p8 z5 q4
  have hvs : vs = #[.int .i64 3, .int .i64 1, .int .i64 0, .int .i64 366, slV L1.blk (L1.sh + o) d1, slV L2.blk (L2.sh + p) d2, .slice none 0 0, .slice none 0 0] := Array.ext' (by rw [p0, p1, p2, p3, p4, p5, p6, p7]; rfl)
  have hws : ws = #[.int .i64 (a : Int), .int .i64 (b : Int)] := Array.ext' (by rw [z3, z4]; rfl)
  subst hvs hws
  have hva : va = #[rV (slV L1.blk (L1.sh + o) d1) (slV L2.blk (L2.sh + p) d2), .int .i64 1, .agg #[.int .i64 (a : Int), .int .i64 (b : Int)]] := Array.ext' (by rw [q1, q2, q3]; rfl)
  subst hva
  have cell : ∀ {i o : Nat} {cs : List AV} {el : TypeId} {wr : Bool} {L : Eng.Loc} {z : Int}, s.get i = some (.cells cs el wr) → ρ i = some L → cs[o]? = some (.int .i64 z) → ∃ c t fr, w.heap[L.blk]? = some (.cells c t fr) ∧ c[L.sh + o]? = some (.int .i64 z) := by
    intro i o cs el wr L z hs hL hcs
    obtain ⟨ob, hob, c, t, fr, rfl, _, _, hc, _⟩ := hR.here hs hL
    obtain ⟨y, hy, hyv⟩ := cells_known hc hcs
    have hyv : y = .int .i64 z := hyv
    exact ⟨c, t, fr, hob, by rw [hy, hyv]⟩
  obtain ⟨c1', t1', fr1, hc1, hd1⟩ := cell hsi hL1 hvi
  obtain ⟨c2', t2', fr2, hc2, hd2⟩ := cell hsj hL2 hvj
  have hV : memR L1.blk (L1.sh + o) L2.blk (L2.sh + p) w := ⟨⟨c1', t1', fr1, hc1, hd1⟩, c2', t2', fr2, hc2, hd2⟩
  have hw : Vars gl w := Vars.of glOK gl_bareM hR hg hm
  intro cs
  obtain ⟨e, w', fr', ⟨rfl, hB⟩, h2⟩ := (hP ▸ c_in (c1 := d1) (c2 := d2) ha1 hab hb3 w hw hV) cs
  exact ⟨_, w', fr', ⟨_, ρ, rfl, Ext.refl _, rfl, hR.frame hB, ⟨hB.os, hB.tape, hB.output, hB.size, fun k hk => hB.block k (hR.size k hk)⟩⟩, h2⟩

/-! ### The runs -/
def txtOK : List Nat := [70, 82, 69, 81, 61, 89, 69, 65, 82, 76, 89, 59, 66, 89, 77, 79, 78, 84, 72, 61, 50, 59, 66, 89, 77, 79, 78, 84, 72, 68, 65, 89, 61, 51, 48, 59, 85, 78, 84, 73, 76, 61, 48, 48, 48, 50, 48, 49, 48, 49]
def txtNo : List Nat := [70, 82, 69, 81, 61, 72, 79, 85, 82, 76, 89]
def dayA : List Nat := [48, 48, 48, 49, 45, 48, 49, 45, 48, 49]
def dayZ : List Nat := [57, 57, 57, 57, 45, 49, 50, 45, 51, 49]
def prev7 : List Nat := [112, 114, 101, 118, 105, 101, 119]
def loc4 (i : Nat) : List Nat := pick [] names4 i
def txtR (wr : Bool) : List Nat := bif_ wr txtNo txtOK
def preR (i : Nat) : List Nat := prev7 ++ 32 :: (loc4 i ++ 32 :: (dayA ++ 32 :: (dayA ++ 32 :: (dayZ ++ [32]))))
/-- The symbols: 0 limit, 1 budget, 2 n, 3 and 4 the numbers, 5 and 6 their digits, 20 .. what is written, 40 all of it, 41 .. what is cut off. -/
def orA (i : Nat) : List OR := bif_ (Nat.beq (Nat.mod i 2) 0)
  [⟨cv tU32 tInt, [.sym 0], .sym 11⟩, ⟨cv tU32 tInt, [.sym 1], .sym 12⟩, ⟨4, [.sym 0, .int .u32 10], .sym 7⟩, ⟨cv tU32 tInt, [.sym 7], .sym 8⟩, ⟨0, [.int .i64 995, .sym 8], .sym 3⟩, ⟨4, [.sym 1, .int .u32 10], .sym 9⟩, ⟨cv tU32 tInt, [.sym 9], .sym 10⟩, ⟨0, [.int .i64 999995, .sym 10], .sym 4⟩]
  [⟨cv tU32 tInt, [.sym 0], .sym 3⟩, ⟨cv tU32 tInt, [.sym 1], .sym 4⟩]
def orW (i : Nat) (wr : Bool) : List OR := [⟨4, [.sym 2, .int .u8 4], .int .u8 (Int.ofNat i)⟩, ⟨4, [.sym 2, .int .u8 2], .int .u8 (Int.ofNat (Nat.mod i 2))⟩, ⟨0, [.str (preR i), .sym 5], .sym 20⟩, ⟨0, [.sym 20, .str [32]], .sym 21⟩, ⟨0, [.sym 21, .sym 6], .sym 22⟩, ⟨0, [.sym 22, .str [32]], .sym 23⟩, ⟨0, [.sym 23, .str (txtR wr)], .sym 40⟩,
  ⟨20, [.sym 40], .sym 25⟩, ⟨15, [.sym 25, .int .i64 8192], .bool false⟩, ⟨11, [.sym 5, .sym 5], .bool true⟩, ⟨11, [.sym 6, .sym 6], .bool true⟩, ⟨16, [.sym 3, .int .i64 0], .bool true⟩, ⟨16, [.sym 4, .int .i64 0], .bool true⟩]
def orG (ga gb : Bool) : List OR := [⟨15, [.sym 3, .int .i64 1000], .bool ga⟩, ⟨15, [.sym 4, .int .i64 1000000], .bool gb⟩]
def orZ (za zb ob lt : Bool) : List OR := [⟨11, [.int .i64 0, .sym 4], .bool zb⟩, ⟨11, [.int .i64 1, .sym 4], .bool ob⟩, ⟨11, [.int .i64 0, .sym 3], .bool za⟩, ⟨11, [.sym 3, .int .i64 0], .bool za⟩, ⟨11, [.sym 4, .int .i64 0], .bool zb⟩, ⟨13, [.sym 4, .int .i64 2], .bool lt⟩, ⟨15, [.sym 3, .int .i64 0], .bool (!za)⟩]
def fieldsR (i : Nat) : List AV := [.str prev7, .str (loc4 i), .str dayA, .str dayA, .str dayZ, .sym 5, .sym 6]
/-- What is cut off; behind the last one a text. -/
def krCutsT (t : AV) (i : Nat) (l : List AV) : List KR := List.rec (motive := fun _ => Nat → List KR) (fun _ => []) (fun a r ih i => ⟨fCut, [.sym i, .str [32]], ⟨.tuple [a, List.rec (motive := fun _ => AV) t (fun _ _ _ => .sym (Nat.succ i)) r, .bool true], []⟩⟩ :: ih (Nat.succ i)) l i
def krR (i : Nat) (wr : Bool) : List KR := [⟨fItoa, [.sym 3], ⟨.sym 5, []⟩⟩, ⟨fItoa, [.sym 4], ⟨.sym 6, []⟩⟩, ⟨fAtoi, [.sym 5], ⟨.tuple [.sym 3, .nilIface], []⟩⟩, ⟨fAtoi, [.sym 6], ⟨.tuple [.sym 4, .nilIface], []⟩⟩] ++ krCutsT (.str (txtR wr)) 40 (fieldsR i)
def ERg (i : Nat) (wr : Bool) (o : List OR) : Env := EV.askH 9 (orA i ++ (orW i wr ++ o)) (memoOr memoIn (memoOr (memoI gl tabs20) (memoKH gl (krR i wr))))
def argR (wr : Bool) : List AV := [.sym 0, .sym 1, .sym 2, .bool wr]
def runR (i : Nat) (wr : Bool) (o : List OR) : Bool := rowRunG (ERg i wr o) gl fServerRange (argR wr) 60000 (.bool true)
def four : List Nat := [0, 1, 2, 3]
theorem runRw : allB (fun i => runR i true []) four = true := by kernel_rfl
theorem runRa : allB (fun i => runR i false (orG true true) && runR i false (orG true false)) four = true := by kernel_rfl
theorem runRb : allB (fun i => runR i false (orG false true)) four = true := by kernel_rfl
theorem runR0 : runR 0 false (orG false false ++ orZ false false false false) = true := by kernel_rfl
theorem runR2 : runR 2 false (orG false false ++ orZ false false false false) = true := by kernel_rfl
theorem runR1a : runR 1 false (orG false false ++ orZ false false false false) = true := by kernel_rfl
theorem runR1b : runR 1 false (orG false false ++ orZ false false true true) = true := by kernel_rfl
theorem runR1c : runR 1 false (orG false false ++ orZ false true false true) = true := by kernel_rfl
theorem runR1d : runR 1 false (orG false false ++ orZ true false false false) = true := by kernel_rfl
theorem runR1e : runR 1 false (orG false false ++ orZ true false true true) = true := by kernel_rfl
theorem runR1f : runR 1 false (orG false false ++ orZ true true false true) = true := by kernel_rfl
theorem runR3a : runR 3 false (orG false false ++ orZ false false false false) = true := by kernel_rfl
theorem runR3b : runR 3 false (orG false false ++ orZ false false true true) = true := by kernel_rfl
theorem runR3c : runR 3 false (orG false false ++ orZ false true false true) = true := by kernel_rfl
theorem runR3d : runR 3 false (orG false false ++ orZ true false false false) = true := by kernel_rfl
theorem runR3e : runR 3 false (orG false false ++ orZ true false true true) = true := by kernel_rfl
theorem runR3f : runR 3 false (orG false false ++ orZ true true false true) = true := by kernel_rfl
end
end Go.Proofs.YtnnhijfbdkokkaaGreatDoor
