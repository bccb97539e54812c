/- The law's Decode at any string: the runs on symbols, cut at its call of Split and at its loops. The law's Decode at any string: what the symbols stand for; the rows are so. The law's Decode at any string: to its call of Split and on from it; how it ends. The law's Decode at any string: the digits' loops. The law's Decode at any string: its rows; both Decodes hand back the same. No condition. -/
import Derived.Test.YtnnhijfbdkokkaaGreatDoorUf
/-! The law's Decode at any string: the runs on symbols, cut at its call of Split and at its loops. -/
namespace Go.Proofs.YtnnhijfbdkokkaaGreatDoor
open Go Go.Eng Go.RowKit
noncomputable section
set_option maxRecDepth 100000

/-! The symbols beside the others: 50 the fields, 51 the first one's place, 53 how many, 54 those behind, 56 those between, 60 .. their places, 85, 86 the numbers' lengths, 90 .. the digits' loop. -/
def EMl (V : World → Prop) (o mr : List OR) (k : List KR) : Env := ({ E0 with V := V } : Env).askM 9 o mr (memoKH gl k)
def mAt : Nat := Nat.add (Nat.mul 8 tStrs) 2
def mLen : Nat := Nat.add (Nat.mul 8 tStrs) 3
def mMid : Nat := Nat.add (Nat.mul 8 tStrs) 4
def mLo : Nat := Nat.add (Nat.mul 8 tStrs) 5
def mLd : Nat := Nat.add (Nat.mul 8 tStr) 1
def mC (V : World → Prop) : Option AM := bnd (startM (EMl V headO [] []) (stOf gl) fDecodeL [.sym 0]) (runS (EMl V headO [] []) (atCall fSplit) 1000)
def mB (V : World → Prop) : Option AM := bnd (mC V) behind
def todoOf (o : Option AM) : Option (List AItem) := match o with
  | some m => some m.fr.todo
  | none => none
def frOf (o : Option AM) : Option AFr := match o with
  | some m => some m.fr
  | none => none
def isB (o : Option AM) (p : AM → Bool) : Bool := match o with
  | some m => p m
  | none => false
def tdO (o : Option (List AItem)) : List AItem := match o with
  | some t => t
  | none => []
def td1 : List AItem := tdO (todoOf (mB fun _ => True))
def keep1 : List (Nat × AV) := [(2, .ptr 1000 0), (3, .int .i64 0), (19, .sym 50)]
def zB : Blk := .cells [.int .i64 0, .str [], .nilslice, .nilslice, .str []] tReq true
def bs1 : List Blk := [zB]
theorem c1_fr (V : World → Prop) : enterA (EMl V headO [] []) fSplit [.sym 0, .str [32]] .normal = frOf (mC V) := by kernel_rfl
theorem c1_dst (V : World → Prop) : isB (mC V) (fun m => dstIs m 19) = true := by kernel_rfl
theorem c1_td (V : World → Prop) : todoOf (mB V) = some td1 := by kernel_rfl
theorem c1_gen (V : World → Prop) : isB (mB V) (genOK gl [] fDecodeL 135 keep1 bs1 [] [1000] [19]) = true := by kernel_rfl
def p1 : AM := patM gl [] fDecodeL 135 td1 keep1 bs1

def formA : AV := .tuple [zA, .int .i64 1]
/-- Another word. -/
def orNo : List OR := words4.map fun w => ⟨11, [.sym 9, .str w], .bool false⟩
def mr0 (a : AV) : List OR := [⟨mAt, [.sym 50, .int .i64 0], .sym 51⟩, ⟨mLd, [.sym 51], a⟩, ⟨mLen, [.sym 50], .sym 53⟩]
theorem runLx (V : World → Prop) : retIs (EMl V orNo (mr0 (.sym 9)) []) fDecodeL formA (runS (EMl V orNo (mr0 (.sym 9)) []) doneA 1000 p1) = true := by kernel_rfl
/-- Fields lack. -/
def orN (k : Nat) (b : Bool) : OR := ⟨13, [.sym 53, .int .i64 (Int.ofNat (Nat.add (many k) 2))], .bool b⟩
theorem runLn' (V : World → Prop) : allB (fun k => retIs (EMl V [orN k true] (mr0 (.str (word k))) []) fDecodeL formA (runS (EMl V [orN k true] (mr0 (.str (word k))) []) doneA 1000 p1)) four4 = true := by kernel_rfl
def mr1 (k : Nat) : List OR := mr0 (.str (word k)) ++ [⟨mLo, [.sym 50, .int .i64 (Int.ofNat (Nat.add (many k) 1))], .sym 54⟩, ⟨mMid, [.sym 50, .int .i64 1, .int .i64 (Int.ofNat (Nat.add (many k) 1))], .sym 56⟩, ⟨mLen, [.sym 56], .int .i64 (Int.ofNat (many k))⟩]
def mrF (j : Nat) : List OR := Nat.rec (motive := fun _ => List OR) [] (fun i l => [⟨mAt, [.sym 56, .int .i64 (Int.ofNat i)], .sym (Nat.add 60 i)⟩, ⟨mLd, [.sym (Nat.add 60 i)], .sym (Nat.add 11 i)⟩] ++ l) j
def lfK (c i : Nat) (e : Bool) : List KR := match c with
  | 0 => []
  | 1 => [⟨fParse, [.sym (Nat.add 11 i)], ⟨.tuple [.sym (Nat.add 1 i), .bool e], []⟩⟩]
  | _ => []
def lfO (c : Nat) (e : Bool) : List OR := match c with
  | 0 => [⟨11, [.sym 11, .str []], .bool (!e)⟩]
  | _ => []
def goodLK (j : Nat) : List KR := Nat.rec (motive := fun _ => List KR) [] (fun i l => lfK (fkind i) i true ++ l) j
def goodLO (j : Nat) : List OR := Nat.rec (motive := fun _ => List OR) [] (fun i l => lfO (fkind i) true ++ l) j
def joinK (k : Nat) : KR := ⟨fJoin, [.sym 54, .str [32]], ⟨.sym (Nat.add 20 (many k)), []⟩⟩
def EK (V : World → Prop) (k : Nat) (o mr : List OR) (kr : List KR) : Env := EMl V (orN k false :: o) (mr1 k ++ mr) (joinK k :: kr)
/-- A field is none: a language, a day. -/
def badL : List (Nat × Nat) := [(0, 0), (0, 1), (1, 0), (2, 0), (2, 1), (2, 2), (2, 3)]
def EKb (V : World → Prop) (x : Nat × Nat) : Env := EK V x.1 (lfO (fkind x.2) false ++ goodLO x.2) (mrF (Nat.succ x.2)) (lfK (fkind x.2) x.2 false ++ goodLK x.2)
theorem runLb (V : World → Prop) : allB (fun x => retIs (EKb V x) fDecodeL formA (runS (EKb V x) doneA 2000 p1)) badL = true := by kernel_rfl
/-- All is as it should be, and no number among it: to where the fields are at an end. -/
def u5 : AV := .agg [.unk, .unk, .unk, .unk, .unk]
def keepF (k : Nat) : List (Nat × AV) := [(2, .ptr 1000 0), (7, .ptr 1001 0), (44, u5), (49, .int .i64 (Int.ofNat (many k))), (50, .int .i64 (Int.ofNat (many k)))] ++ pick [] [[(119, .tuple [.unk, .unk]), (121, .tuple [.unk, .unk])], [], [(119, .tuple [.unk, .unk]), (121, .tuple [.unk, .unk])], []] k
def dB : Blk := .cells [.sym 2, .sym 3, .sym 4] (Nat.add tailN tDay) true
def bsF (k : Nat) : List Blk := pick [] [[zB, .cells [.int .i64 0, .sym 11, .slice 1002 0 1 1 1, .nilslice, .sym 22] tReq true, .cells [.sym 2] tDay true],
  [zB, .cells [.int .i64 1, .sym 11, .nilslice, .nilslice, .sym 21] tReq true],
  [zB, .cells [.int .i64 2, .sym 11, .slice 1002 0 3 3 1, .slice 1003 0 2 2 1, .sym 26] tReq true, dB, .cells [.sym 5, .sym 6] (Nat.add tailN tInt) true],
  [zB, .cells [.int .i64 3, .str [], .nilslice, .nilslice, .sym 20] tReq true]] k
def muF (k : Nat) : List Nat := pick [] [[1000, 1003, 1005], [1000, 1003], [1000, 1001, 1002, 1005], [1000, 1003]] k
def thF (k : Nat) : List (Nat × AV) := pick [] [[(11, .sym 11), (22, .sym 22), (2, .sym 2)], [(11, .sym 11), (21, .sym 21)], [(11, .sym 11), (26, .sym 26), (2, .sym 2), (3, .sym 3), (4, .sym 4), (5, .sym 5), (6, .sym 6)], [(20, .sym 20)]] k
def EKg (V : World → Prop) (k : Nat) : Env := EK V k (goodLO (many k)) (mrF (many k)) (goodLK (many k))
def tpF (V : World → Prop) (k : Nat) : Option (List AItem) := toPat (EKg V k) gl [] 2 1000 (many k) fDecodeL 135 (keepF k) (bsF k) (thF k) (muF k) p1
def tdF (k : Nat) : List AItem := tdO (tpF (fun _ => True) k)
theorem runLf0 (V : World → Prop) : tpF V 0 = some (tdF 0) := by kernel_rfl
theorem runLf1 (V : World → Prop) : tpF V 1 = some (tdF 1) := by kernel_rfl
theorem runLf3 (V : World → Prop) : tpF V 3 = some (tdF 3) := by kernel_rfl

/-! ### The digits' loops -/
def nB : Blk := .cells [.sym 5] tInt true
def keepN (i : Nat) : List (Nat × AV) := [(2, .ptr 1000 0), (7, .ptr 1001 0), (8, .int .i64 (Int.ofNat (Nat.add 4 i))), (9, .sym (Nat.add 15 i)), (12, .sym 90), (44, u5), (48, .sym 56), (49, .int .i64 6), (50, .int .i64 (Int.ofNat (Nat.add 4 i))), (56, .sym (Nat.add 85 i)), (57, .sym 91), (119, .tuple [.unk, .unk]), (121, .tuple [.unk, .unk])]
def bsN (i : Nat) : List Blk := pick [] [[zB, .cells [.int .i64 2, .sym 11, .slice 1002 0 3 3 1, .nilslice, .sym 26] tReq true, dB], [zB, .cells [.int .i64 2, .sym 11, .slice 1002 0 3 3 1, .slice 1003 0 1 1 1, .sym 26] tReq true, dB, nB]] i
def sameN : List (Nat × AV) := [(2, .sym 2), (3, .sym 3), (4, .sym 4), (5, .sym 5), (11, .sym 11), (26, .sym 26), (15, .sym 15), (16, .sym 16), (56, .sym 56), (85, .sym 85), (86, .sym 86)]
def fromN (a b : AV) : List (Nat × AV) := (90, a) :: (91, b) :: sameN
def lenO (i : Nat) : OR := ⟨20, [.sym (Nat.add 15 i)], .sym (Nat.add 85 i)⟩
def EN0 (V : World → Prop) : Env := EK V 2 (lenO 0 :: goodLO 4) (mrF 5) (goodLK 4)
def tpN0 (V : World → Prop) : Option (List AItem) := toPat (EN0 V) gl [] 8 1000 0 fDecodeL 135 (keepN 0) (bsN 0) (fromN (.int .u64 0) (.int .i64 0)) [1000, 1003, 1009] p1
/-- The second loop's way from the first one is its end. -/
def orLp (i : Nat) (b1 b2 b3 : Bool) : List OR := [⟨13, [.sym 91, .sym (Nat.add 85 i)], .bool true⟩, ⟨21, [.sym (Nat.add 15 i), .sym 91], .sym 92⟩, ⟨13, [.sym 92, .int .u8 48], .bool b1⟩, ⟨15, [.sym 92, .int .u8 57], .bool b2⟩, ⟨15, [.sym 91, .int .i64 18], .bool b3⟩]
def orGo : List OR := [⟨2, [.int .u64 10, .sym 90], .sym 93⟩, ⟨1, [.sym 92, .int .u8 48], .sym 94⟩, ⟨cv tU8 tU64, [.sym 94], .sym 95⟩, ⟨0, [.sym 93, .sym 95], .sym 96⟩, ⟨0, [.sym 91, .int .i64 1], .sym 97⟩]
def orEx (i : Nat) (a b g : Bool) : List OR := [⟨13, [.sym 91, .sym (Nat.add 85 i)], .bool false⟩, ⟨11, [.sym (Nat.add 15 i), .str []], .bool a⟩, ⟨15, [.sym 90, .int .u64 9223372036854775807], .bool b⟩, lenO i, ⟨15, [.sym (Nat.add 85 i), .int .i64 1], .bool g⟩]
def orZ1 (i : Nat) (z : Bool) : List OR := [⟨21, [.sym (Nat.add 15 i), .int .i64 0], .sym 98⟩, ⟨11, [.sym 98, .int .u8 48], .bool z⟩]
def orCv (i : Nat) : OR := ⟨cv tU64 tInt, [.sym 90], .sym (Nat.add 5 i)⟩
def mrN : List OR := [⟨mAt, [.sym 56, .int .i64 5], .sym 65⟩, ⟨mLd, [.sym 65], .sym 16⟩]
def tdN0 : List AItem := tdO (tpN0 fun _ => True)
def pN0 : AM := patM gl [] fDecodeL 135 tdN0 (keepN 0) (bsN 0)
theorem runN0 (V : World → Prop) : tpN0 V = some tdN0 := by kernel_rfl
def EX0 (V : World → Prop) (g z : Bool) : Env := EMl V (orEx 0 false false g ++ (orZ1 0 z ++ [orCv 0, lenO 1])) mrN []
def tpN1 (V : World → Prop) (g z : Bool) : Option (List AItem) := toPat (EX0 V g z) gl [] 8 1000 0 fDecodeL 135 (keepN 1) (bsN 1) (fromN (.int .u64 0) (.int .i64 0)) [1000, 1001, 1002, 1004] pN0
def tdN1 : List AItem := tdO (tpN1 (fun _ => True) false false)
def pN1 : AM := patM gl [] fDecodeL 135 tdN1 (keepN 1) (bsN 1)
theorem runN1 (V : World → Prop) : ∀ g z : Bool, (g && z) = false → tpN1 V g z = some tdN1 := by
  intro g z h
  cases g <;> cases z <;> first | (cases h; done) | kernel_rfl
def EX1 (V : World → Prop) (g z : Bool) : Env := EMl V (orEx 1 false false g ++ (orZ1 1 z ++ [orCv 1])) [] []
theorem runLf2 (V : World → Prop) : ∀ g z : Bool, (g && z) = false → toPat (EX1 V g z) gl [] 2 1000 0 fDecodeL 135 (keepF 2) (bsF 2) (thF 2) (muF 2) pN1 = some (tdF 0) := by
  intro g z h
  cases g <;> cases z <;> first | (cases h; done) | kernel_rfl
def ptN (i : Nat) : AM := pick pN0 [pN0, pN1] i
def tdN (i : Nat) : List AItem := pick [] [tdN0, tdN1] i
def two2 : List Nat := [0, 1]
def muN (i : Nat) : List Nat := pick [] [[1000, 1001, 1002], [1000, 1001, 1002, 1003]] i
def EGo (V : World → Prop) (i : Nat) : Env := EMl V (orLp i false false false ++ orGo) [] []
theorem runGo0 (V : World → Prop) : toPat (EGo V 0) gl [] 8 1000 0 fDecodeL 135 (keepN 0) (bsN 0) (fromN (.sym 96) (.sym 97)) (muN 0) (ptN 0) = some (tdN 0) := by kernel_rfl
theorem runGo1 (V : World → Prop) : toPat (EGo V 1) gl [] 8 1000 0 fDecodeL 135 (keepN 1) (bsN 1) (fromN (.sym 96) (.sym 97)) (muN 1) (ptN 1) = some (tdN 1) := by kernel_rfl
def ELp (V : World → Prop) (i : Nat) (b1 b2 b3 : Bool) : Env := EMl V (orLp i b1 b2 b3) [] []
theorem runBad (V : World → Prop) : ∀ b1 b2 b3 : Bool, (b1 || b2 || b3) = true → allB (fun i => retIs (ELp V i b1 b2 b3) fDecodeL formA (runS (ELp V i b1 b2 b3) doneA 1000 (ptN i))) two2 = true := by
  intro b1 b2 b3 h
  cases b1 <;> cases b2 <;> cases b3 <;> first | (cases h; done) | kernel_rfl
def EBa (V : World → Prop) (i : Nat) (b g : Bool) : Env := EMl V (orEx i true b g) [] []
theorem runBa (V : World → Prop) : ∀ b g : Bool, allB (fun i => retIs (EBa V i b g) fDecodeL formA (runS (EBa V i b g) doneA 1000 (ptN i))) two2 = true := by
  intro b g
  cases b <;> cases g <;> kernel_rfl
def EBb (V : World → Prop) (i : Nat) (b g z : Bool) : Env := EMl V (orEx i false b g ++ orZ1 i z) [] []
theorem runBb (V : World → Prop) : ∀ b g z : Bool, (b || (g && z)) = true → allB (fun i => retIs (EBb V i b g z) fDecodeL formA (runS (EBb V i b g z) doneA 1000 (ptN i))) two2 = true := by
  intro b g z h
  cases b <;> cases g <;> cases z <;> first | (cases h; done) | kernel_rfl
/-! ### The end -/
def ptF (k : Nat) : AM := patM gl [] fDecodeL 135 (tdF 0) (keepF k) (bsF k)
def nsF (k : Nat) : List Nat := pick [] [[1002], [], [1002, 1003], []] k
def EEnd (V : World → Prop) : Env := EMl V [] [] []
theorem td_s1 : tdF 1 = tdF 0 := by kernel_rfl
theorem td_s3 : tdF 3 = tdF 0 := by kernel_rfl
theorem runEnd (V : World → Prop) : allB (fun k => imgIs (EEnd V) fDecodeL (nsF k) (okI k) (runS (EEnd V) doneA 1000 (ptF k))) four4 = true := by kernel_rfl
end
end Go.Proofs.YtnnhijfbdkokkaaGreatDoor

/-! The law's Decode at any string: what the symbols stand for; the rows are so. -/
namespace Go.Proofs.YtnnhijfbdkokkaaGreatDoor
open Go Go.Eng Go.RowKit
noncomputable section
set_option maxRecDepth 100000

theorem envMl (V : World → Prop) : EnvOK ({ E0 with V := V } : Env) := ⟨envOK.ty, envOK.fns, envOK.mixed⟩
/-! ### The fields' block -/
def memF (N : Nat) (F : List (List UInt8)) (w : World) : Prop := (∃ c t fr, w.heap[N]? = some (.cells c t fr) ∧ c.toList = F.map strV) ∧ errV w
theorem memF_hold {N : Nat} {F : List (List UInt8)} {b : Nat → Prop} {w : World} (h : memF N F w) (hN : b N) (he : Hold errV b w) : Hold (memF N F) b w :=
  ⟨h, fun w1 w2 ⟨⟨c, t, fr, e1, e2⟩, q⟩ hK => ⟨⟨c, t, fr, by rw [hK.block N hN]; exact e1, e2⟩, he.keep _ _ q hK⟩⟩
theorem typStrs {E : Env} (h : E.ty = E0.ty) : und E tStrs = some (.slice tStr) ∧ szOf E tStr = some 1 := by
  unfold und szOf; rw [h]; exact ⟨by kernel_rfl, by kernel_rfl⟩
theorem tyStr {E : Env} (h : E.ty = E0.ty) : ∃ ti, E.ty.get tStr = some ti ∧ ti.isAgg = false := by
  rw [h]
  have h1 : (match E0.ty.get tStr with | some ti => !ti.isAgg | none => false) = true := by kernel_rfl
  split at h1
  · rename_i ti hti; exact ⟨ti, hti, by simpa using h1⟩
  · cases h1

def xN (fs : List (List UInt8)) (i : Nat) : List UInt8 := fj fs (4 + i)
def natAt (x : List UInt8) (j : Nat) : Nat := ((nats x)[j]?).getD 0
def sgW (zz : Nat → Value) (N : Nat) (s name : List UInt8) (fs : List (List UInt8)) (t : List UInt8) (k i j : Nat) : Nat → Value
  | 50 => .slice (some ⟨N, 0, none⟩) (fs.length + 2) (fs.length + 2)
  | 51 => .pointer (some ⟨N, 0 + 0, none⟩)
  | 53 => .int .i64 ((fs.length + 2 : Nat) : Int)
  | 54 => .slice (some ⟨N, 0 + (many k + 1), none⟩) (fs.length + 2 - (many k + 1)) (fs.length + 2 - (many k + 1))
  | 56 => .slice (some ⟨N, 0 + 1, none⟩) (many k + 1 - 1) (fs.length + 2 - 1)
  | 60 => .pointer (some ⟨N, 0 + 1 + 0, none⟩)
  | 61 => .pointer (some ⟨N, 0 + 1 + 1, none⟩)
  | 62 => .pointer (some ⟨N, 0 + 1 + 2, none⟩)
  | 63 => .pointer (some ⟨N, 0 + 1 + 3, none⟩)
  | 64 => .pointer (some ⟨N, 0 + 1 + 4, none⟩)
  | 65 => .pointer (some ⟨N, 0 + 1 + 5, none⟩)
  | 85 => .int .i64 ((xN fs 0).length : Nat)
  | 86 => .int .i64 ((xN fs 1).length : Nat)
  | 90 => .int .u64 (nv ((xN fs i).take j) : Nat)
  | 91 => .int .i64 (j : Nat)
  | 92 => .int .u8 (natAt (xN fs i) j : Nat)
  | 93 => .int .u64 (10 * nv ((xN fs i).take j) : Nat)
  | 94 => .int .u8 (natAt (xN fs i) j - 48 : Nat)
  | 95 => .int .u64 (natAt (xN fs i) j - 48 : Nat)
  | 96 => .int .u64 (10 * nv ((xN fs i).take j) + (natAt (xN fs i) j - 48) : Nat)
  | 97 => .int .i64 (j + 1 : Nat)
  | 98 => .int .u8 (natAt (xN fs i) 0 : Nat)
  | n => sgD zz s name fs t n
section
variable {N : Nat} {zz : Nat → Value} {s name : List UInt8} {fs : List (List UInt8)} {t : List UInt8} {k i j : Nat} {m : Int}
theorem sgW_p {q : Nat} (h : q < 6) : withM (sgW zz N s name fs t k i j) m (Nat.add 60 q) = .pointer (some ⟨N, 0 + 1 + q, none⟩) := by
  match q, h with
  | 0, _ | 1, _ | 2, _ | 3, _ | 4, _ | 5, _ => rfl
theorem sgW_f {q : Nat} (h : q < 6) : withM (sgW zz N s name fs t k i j) m (Nat.add 11 q) = strV (fj fs q) := by
  match q, h with
  | 0, _ | 1, _ | 2, _ | 3, _ | 4, _ | 5, _ => rfl
theorem sgW_r {q : Nat} (h : q < 7) : withM (sgW zz N s name fs t k i j) m (Nat.add 20 q) = strV (tailS (fs.drop q) t) := by
  match q, h with
  | 0, _ | 1, _ | 2, _ | 3, _ | 4, _ | 5, _ | 6, _ => rfl
theorem sgW_x {q : Nat} (h : q < 2) : withM (sgW zz N s name fs t k i j) m (Nat.add 15 q) = strV (xN fs q) := by
  match q, h with
  | 0, _ | 1, _ => rfl
theorem sgW_l {q : Nat} (h : q < 2) : withM (sgW zz N s name fs t k i j) m (Nat.add 85 q) = .int .i64 ((xN fs q).length : Nat) := by
  match q, h with
  | 0, _ | 1, _ => rfl
theorem sgW_v {q : Nat} (h : q < 2) : withM (sgW zz N s name fs t k i j) m (Nat.add 5 q) = .int .i64 (atoiN (xN fs q)) := by
  match q, h with
  | 0, _ | 1, _ => rfl

/-! ### What is read of the block -/
section
variable {E : Env} (hT : E.ty = E0.ty) (ok : EnvOK E) (hV : ∀ w, E.V w → memF N (name :: (fs ++ [t])) w)
include hT ok hV
theorem ld_ok {σ : Nat → Value} {p o : Nat} {a : AV} {f : List UInt8} (hp : σ p = .pointer (some ⟨N, o, none⟩)) (hf : (name :: (fs ++ [t]))[o]? = some f) (ha : ∀ ρ, VR ρ σ a (strV f)) : RowM E σ ⟨mLd, [.sym p], a⟩ := by
  obtain ⟨ti, hti, hA⟩ := tyStr hT
  refine RowM.load (u := tStr) hp hti hA (fun w hw => ?_) ok
  obtain ⟨⟨c, t', fr, e1, e2⟩, _⟩ := hV w hw
  exact ⟨c, t', fr, strV f, e1, by rw [← Array.getElem?_toList, e2, List.getElem?_map, hf]; rfl, ha⟩
theorem mr0_ok {a : AV} (ha : ∀ ρ, VR ρ (withM (sgW zz N s name fs t k i j) m) a (strV name)) : ∀ r ∈ mr0 a, RowM E (withM (sgW zz N s name fs t k i j) m) r := by
  obtain ⟨hu, hz⟩ := typStrs hT
  intro r hr
  simp only [mr0, List.mem_cons, List.mem_nil_iff, or_false] at hr
  rcases hr with rfl | rfl | rfl
  · exact RowM.at (u := tStrs) (n := 0) (blk := N) (off := 0) (len := fs.length + 2) (cap := fs.length + 2) hu hz rfl rfl (by omega) rfl ok
  · exact ld_ok hT ok hV (p := 51) (o := 0 + 0) rfl rfl ha
  · exact RowM.len (u := tStrs) (len := fs.length + 2) (cap := fs.length + 2) (ad := some ⟨N, 0, none⟩) hu rfl rfl ok
theorem mr1_ok (hm : many k ≤ fs.length) (hn : nats name = word k) : ∀ r ∈ mr1 k, RowM E (withM (sgW zz N s name fs t k i j) m) r := by
  obtain ⟨hu, hz⟩ := typStrs hT
  intro r hr
  unfold mr1 at hr
  rcases List.mem_append.1 hr with hr | hr
  · exact mr0_ok hT ok hV (a := .str (word k)) (fun ρ => ⟨_, rfl, hn⟩) r hr
  simp only [List.mem_cons, List.mem_nil_iff, or_false] at hr
  rcases hr with rfl | rfl | rfl
  · exact RowM.part (u := tStrs) (blk := N) (off := 0) (len := fs.length + 2) (cap := fs.length + 2) (lo := many k + 1) (hi := fs.length + 2) hu hz rfl (by omega) (by omega) (by omega) rfl (.inr (.inl ⟨rfl, rfl, _, .i64, rfl, rfl⟩)) ok
  · exact RowM.part (u := tStrs) (blk := N) (off := 0) (len := fs.length + 2) (cap := fs.length + 2) (lo := 1) (hi := many k + 1) hu hz rfl (by omega) (by omega) (by omega) rfl (.inl ⟨rfl, _, _, .i64, .i64, rfl, rfl, rfl⟩) ok
  · exact RowM.len (u := tStrs) (len := many k + 1 - 1) (cap := fs.length + 2 - 1) (ad := some ⟨N, 0 + 1, none⟩) hu rfl rfl ok
omit hT ok hV in
theorem field_at {q : Nat} (h : q < fs.length) : (name :: (fs ++ [t]))[0 + 1 + q]? = some (fj fs q) := by
  rw [show 0 + 1 + q = q + 1 by omega, List.getElem?_cons_succ, List.getElem?_append_left h]
  unfold fj
  rw [List.getD_eq_getElem?_getD, List.getElem?_eq_getElem h]; rfl
theorem mrF1_ok {q : Nat} (h6 : q < 6) (hk : q < many k) (h : q < fs.length) : RowM E (withM (sgW zz N s name fs t k i j) m) ⟨mAt, [.sym 56, .int .i64 (Int.ofNat q)], .sym (Nat.add 60 q)⟩ ∧ RowM E (withM (sgW zz N s name fs t k i j) m) ⟨mLd, [.sym (Nat.add 60 q)], .sym (Nat.add 11 q)⟩ := by
  obtain ⟨hu, hz⟩ := typStrs hT
  refine ⟨RowM.at (u := tStrs) (n := q) (blk := N) (off := 0 + 1) (len := many k + 1 - 1) (cap := fs.length + 2 - 1) hu hz rfl rfl (by omega) (sgW_p h6) ok, ?_⟩
  exact ld_ok hT ok hV (sgW_p h6) (field_at h) (fun ρ => ⟨(sgW_f h6).symm, rfl⟩)
theorem mrF_ok : ∀ q : Nat, q ≤ 6 → q ≤ many k → q ≤ fs.length → ∀ r ∈ mrF q, RowM E (withM (sgW zz N s name fs t k i j) m) r
  | 0, _, _, _, r, hr => by cases hr
  | q + 1, h6, hk, h, r, hr => by
    have hr : r ∈ [(⟨mAt, [.sym 56, .int .i64 (Int.ofNat q)], .sym (Nat.add 60 q)⟩ : OR), ⟨mLd, [.sym (Nat.add 60 q)], .sym (Nat.add 11 q)⟩] ++ mrF q := hr
    have h1 := mrF1_ok hT ok hV (zz := zz) (s := s) (k := k) (i := i) (j := j) (m := m) (q := q) (by omega) (by omega) (by omega)
    rcases List.mem_append.1 hr with hr | hr
    · simp only [List.mem_cons, List.mem_nil_iff, or_false] at hr
      rcases hr with rfl | rfl
      · exact h1.1
      · exact h1.2
    · exact mrF_ok q (by omega) (by omega) (by omega) r hr
end
theorem orN_ok {E : Env} {b : Bool} (hb : b = decide (fs.length < many k)) : RowOK E 9 (withM (sgW zz N s name fs t k i j) m) (orN k b) :=
  RowOK.cmp .i64 (x := ((fs.length + 2 : Nat) : Int)) (y := ((many k + 2 : Nat) : Int)) rfl rfl (.inr (.inr (.inl ⟨rfl, by rw [hb, decide_eq_decide]; omega⟩)))
theorem orNo_ok {E : Env} (hn : ∀ w ∈ words4, nats name ≠ w) : ∀ r ∈ orNo, RowOK E 9 (withM (sgW zz N s name fs t k i j) m) r := by
  intro r hr
  unfold orNo at hr
  obtain ⟨w, hw, rfl⟩ := List.mem_map.1 hr
  exact RowOK.seq (p := nats name) (q := w) rfl rfl (.inl ⟨rfl, by rw [decide_eq_false (hn w hw)]⟩)

/-! ### Join -/
theorem c_joinF (hl : (tailS fs t).length ≤ 1000000) {q : Nat} (hq : q ≤ fs.length) : CallsV Tryz.prog gl fJoin #[.slice (some ⟨N, 0 + (q + 1), none⟩) (fs.length + 2 - (q + 1)) (fs.length + 2 - (q + 1)), strV [32]] (strV (tailS (fs.drop q) t)) (memF N (name :: (fs ++ [t]))) := by
  intro w _ ⟨⟨c, t', fr, e1, e2⟩, _⟩
  let xs : List ByteArray := (fs.drop q ++ [t]).map fun l => ⟨l.toArray⟩
  have exs : xs.length = fs.length + 2 - (q + 1) := by
    show ((fs.drop q ++ [t]).map _).length = _
    rw [List.length_map, List.length_append, List.length_drop, List.length_singleton]; omega
  have ed : xs.map (·.data.toList) = fs.drop q ++ [t] := by
    show ((fs.drop q ++ [t]).map _).map _ = _
    rw [List.map_map]
    exact List.map_id' _
  have elen : (Lib.join (xs.map (·.data.toList)) ((⟨#[32]⟩ : ByteArray).data.toList)) = tailS (fs.drop q) t := by
    rw [ed]; exact join_tail _ _
  have h := Tryz.strings_Join N (0 + (q + 1)) (fs.length + 2 - (q + 1)) xs ⟨#[32]⟩ w (fun j x hx => by
      have hx : ((fs.drop q ++ [t]).map fun l => (⟨l.toArray⟩ : ByteArray))[j]? = some x := hx
      rw [List.getElem?_map] at hx
      obtain ⟨f, hf, rfl⟩ := Option.map_eq_some_iff.1 hx
      rw [cell_at e1, ← Array.getElem?_toList, e2, List.getElem?_map]
      have : (name :: (fs ++ [t]))[0 + (q + 1) + j]? = some f := by
        rw [show 0 + (q + 1) + j = (q + j) + 1 by omega, List.getElem?_cons_succ, ← List.getElem?_drop, List.drop_append, show q - fs.length = 0 by omega, List.drop_zero]
        exact hf
      rw [this]; rfl) (lt_of_get e1) (by
      rw [exs]
      have : fs.length ≤ (tailS fs t).length := by
        clear hl e2 hq exs ed elen xs
        induction fs with
        | nil => simp
        | cons f r ih =>
          show r.length + 1 ≤ (f ++ 32 :: tailS r t).length
          rw [List.length_append, List.length_cons]; omega
      omega) (by rw [exs]; omega) (by rw [elen]; have := tail_drop_len (t := t) q fs; omega)
  rw [elen, exs] at h
  exact h
theorem joinK_ok (hl : (tailS fs t).length ≤ 1000000) (h4 : k < 4) (hm : many k ≤ fs.length) : KRow Tryz.prog gl (withM (sgW zz N s name fs t k i j) m) (joinK k).f (joinK k).args (joinK k).img (memF N (name :: (fs ++ [t]))) :=
  KRow.ofC (withM_kM _ _) rfl rfl (va := #[.slice (some ⟨N, 0 + (many k + 1), none⟩) (fs.length + 2 - (many k + 1)) (fs.length + 2 - (many k + 1)), strV [32]]) ⟨_, _, rfl, ⟨rfl, rfl⟩, _, _, rfl, ⟨_, rfl, rfl⟩, rfl⟩ (.inl rfl) (u := strV (tailS (fs.drop (many k)) t))
    ⟨(sgW_r (by have := many_le h4; omega)).symm, rfl⟩ (c_joinF hl hm)

/-! ### Languages and days -/
theorem lfK_ok {q : Nat} (hq : q < 6) {e : Bool} (h1 : fkind q = 1 → e = pB (fj fs q)) : ∀ r ∈ lfK (fkind q) q e, KRow Tryz.prog gl (withM (sgW zz N s name fs t k i j) m) r.f r.args r.img (memF N (name :: (fs ++ [t]))) := by
  have day : ∀ {a b : Nat} {l : List UInt8} {e : Bool}, e = pB l → withM (sgW zz N s name fs t k i j) m a = strV l → withM (sgW zz N s name fs t k i j) m b = .int .i64 (pN l) → KRow Tryz.prog gl (withM (sgW zz N s name fs t k i j) m) fParse [.sym a] ⟨.tuple [.sym b, .bool e], []⟩ (memF N (name :: (fs ++ [t]))) := fun hb ej ek => by
    rw [hb]
    exact KRow.ofC (withM_kM _ _) rfl rfl (va := #[strV _]) ⟨_, _, rfl, ⟨ej.symm, rfl⟩, rfl⟩ (.inr ⟨_, rfl, rfl⟩) (u := .tuple #[.int .i64 (pN _), .bool (pB _)]) ⟨_, rfl, _, _, rfl, ⟨ek.symm, rfl⟩, _, _, rfl, rfl, rfl⟩ (CallsV.more (c_parseE _) fun _ h => h.2)
  intro r hr
  match q, hq with
  | 0, _ => cases hr
  | 1, _ =>
    have hr : r ∈ [(⟨fParse, [.sym 12], ⟨.tuple [.sym 2, .bool e], []⟩⟩ : KR)] := hr
    simp only [List.mem_cons, List.mem_nil_iff, or_false] at hr
    subst hr
    exact day (h1 rfl) rfl rfl
  | 2, _ =>
    have hr : r ∈ [(⟨fParse, [.sym 13], ⟨.tuple [.sym 3, .bool e], []⟩⟩ : KR)] := hr
    simp only [List.mem_cons, List.mem_nil_iff, or_false] at hr
    subst hr
    exact day (h1 rfl) rfl rfl
  | 3, _ =>
    have hr : r ∈ [(⟨fParse, [.sym 14], ⟨.tuple [.sym 4, .bool e], []⟩⟩ : KR)] := hr
    simp only [List.mem_cons, List.mem_nil_iff, or_false] at hr
    subst hr
    exact day (h1 rfl) rfl rfl
  | 4, _ | 5, _ => cases hr
theorem lfO_ok {E : Env} {q : Nat} (hq : q < 6) {e : Bool} (h0 : fkind q = 0 → e = !decide (fj fs q = [])) : ∀ r ∈ lfO (fkind q) e, RowOK E 9 (withM (sgW zz N s name fs t k i j) m) r := by
  intro r hr
  match q, hq with
  | 0, _ =>
    have hr : r ∈ [(⟨11, [.sym 11, .str []], .bool (!e)⟩ : OR)] := hr
    simp only [List.mem_cons, List.mem_nil_iff, or_false] at hr
    subst hr
    refine RowOK.seq (p := nats (fj fs 0)) (q := nats []) rfl rfl (.inl ⟨rfl, ?_⟩)
    rw [h0 rfl, Bool.not_not, decide_eq_decide]
    exact nats_iff.symm
  | 1, _ | 2, _ | 3, _ | 4, _ | 5, _ => cases hr
theorem goodLK_ok : ∀ q : Nat, q ≤ 6 → (∀ z, z < q → good fs z) → ∀ r ∈ goodLK q, KRow Tryz.prog gl (withM (sgW zz N s name fs t k i j) m) r.f r.args r.img (memF N (name :: (fs ++ [t])))
  | 0, _, _, r, hr => by cases hr
  | q + 1, hq, h, r, hr => by
    have hg := h q (by omega)
    have hr : r ∈ lfK (fkind q) q true ++ goodLK q := hr
    rcases List.mem_append.1 hr with hr | hr
    · exact lfK_ok (by omega) (fun e => (hg.2.2.1 e).symm) r hr
    · exact goodLK_ok q (by omega) (fun z hz => h z (by omega)) r hr
theorem goodLO_ok {E : Env} : ∀ q : Nat, q ≤ 6 → (∀ z, z < q → good fs z) → ∀ r ∈ goodLO q, RowOK E 9 (withM (sgW zz N s name fs t k i j) m) r
  | 0, _, _, r, hr => by cases hr
  | q + 1, hq, h, r, hr => by
    have hg := h q (by omega)
    have hr : r ∈ lfO (fkind q) true ++ goodLO q := hr
    rcases List.mem_append.1 hr with hr | hr
    · exact lfO_ok (by omega) (fun e => by rw [decide_eq_false (hg.2.1 e)]; rfl) r hr
    · exact goodLO_ok q (by omega) (fun z hz => h z (by omega)) r hr
end
end
end Go.Proofs.YtnnhijfbdkokkaaGreatDoor

/-! The law's Decode at any string: to its call of Split and on from it; how it ends. -/
namespace Go.Proofs.YtnnhijfbdkokkaaGreatDoor
open Go Go.Eng Go.RowKit
noncomputable section
set_option maxRecDepth 100000

/-- From here on it comes to this image, in whatever state the caller stood. -/
def Fin (σ : Nat → Value) (img : Img) (cs : List Frame) (w : World) (ρ0 : Rho) (M : Machine) : Prop :=
  ∀ (B : Base) (ρc : Rho) (sc : St) (v : AV) (s2 : St), R B ρc σ sc w → (∀ g, g < gN → ρ0 g = ρc g) → place img sc = some (v, s2) → Wins Tryz.prog fDecodeL cs (CallPost B ρc σ v s2 w) M
theorem Fin.steps {σ : Nat → Value} {img : Img} {cs : List Frame} {w : World} {ρ0 : Rho} {M M' : Machine} (h : Steps Tryz.prog M M') (k : Fin σ img cs w ρ0 M') : Fin σ img cs w ρ0 M :=
  fun B ρc sc v s2 h1 h2 h3 => Wins.steps h (k B ρc sc v s2 h1 h2 h3)
theorem place_form {sc s2 : St} {v : AV} (h : place formI sc = some (v, s2)) : v = formA ∧ s2 = sc := by
  obtain ⟨N, t⟩ := sc
  unfold place formI at h
  simp only [putB] at h
  cases h
  exact ⟨rfl, rfl⟩
theorem form_any {ρ ρ' : Rho} {σ σ' : Nat → Value} {u : Value} (h : VR ρ σ formA u) : VR ρ' σ' formA u := h
section
variable {E : Env} {b : Nat → Prop} {ρ0 : Rho} {σ σ1 : Nat → Value} {cs : List Frame} {mm : AM} {M : Machine} {w w1 : World}
theorem fin_form (hP : E.P = Tryz.prog) (ok : EnvS E σ1) (mo : MemoOK E σ1) (hv : Hold E.V b w1) (h : Live E b ρ0 σ1 cs mm M w1) (hB : Below w.heap.size w w1) (hb : ∀ j, j < w.heap.size → b j) {n : Nat} (hx : retIs E fDecodeL formA (runS E doneA n mm) = true) : Fin σ formI cs w ρ0 M := by
  intro B ρc sc v s2 hR hlow hpl
  obtain ⟨rfl, rfl⟩ := place_form hpl
  have := h.wins ok mo hv hx
  rw [hP] at this
  refine this.mono ?_
  rintro e w' ⟨u, ρ', rfl, hu, hK⟩
  have hB' : Below w.heap.size w w' := Below.kept hB hK hb
  exact ⟨u, ρc, rfl, Ext.refl _, form_any hu, hR.frame hB', ⟨hB'.os, hB'.tape, hB'.output, hB'.size, fun k hk => hB'.block k (hR.size k hk)⟩⟩
theorem fin_img (hP : E.P = Tryz.prog) (ok : EnvS E σ) (mo : MemoOK E σ) (hv : Hold E.V b w1) (h : Live E b ρ0 σ cs mm M w1) (hB : Below w.heap.size w w1) (hb : ∀ j, j < w.heap.size → b j) {n : Nat} {ns : List Nat} {img : Img} (hx : imgIs E fDecodeL ns img (runS E doneA n mm) = true) : Fin σ img cs w ρ0 M := by
  intro B ρc sc v s2 hR hlow hpl
  obtain ⟨fr, w', h1, h2, h3, u, h4, h5⟩ := h.image ok mo hv hx hR hlow hB hb hpl
  rw [hP] at h1 h4
  exact ⟨_, w', fr, h5, h1, h3, h4⟩
end

/-- To the call of Split, and what lies behind it. -/
theorem law_via {zz : Nat → Value} {s name : List UInt8} {fs : List (List UInt8)} {t : List UInt8} {m : Int} {img : Img} {fa : List (List UInt8)} {ta : List UInt8} (hs : s.length ≤ 8192) (es : s = tailS fa ta) (hb : bare fa) (ht : 32 ∉ ta)
    (hcont : ∀ (N : Nat) (cs : List Frame) (ρ0 : Rho) (w w1 : World) (M : Machine), w.heap.size ≤ N → memF N (fa ++ [ta]) w1 → Below w.heap.size w w1 → Hold errV (fun k => k < w.heap.size) w1 →
      (∀ (σ' : Nat → Value) (E' : Env), σ' 50 = .slice (some ⟨N, 0, none⟩) (fa.length + 1) (fa.length + 1) → σ' kM = .int .i64 m → ∃ b', b' N ∧ (∀ j, j < w.heap.size → b' j) ∧ Live E' b' ρ0 σ' cs p1 M w1) → Fin (withM (sgD zz s name fs t) m) img cs w ρ0 M) :
    KRow Tryz.prog gl (withM (sgD zz s name fs t) m) fDecodeL [.sym 0] img errV := by
  intro B ρ sc w va hv0 hR hsG hva v s2 hpl cs
  have hv : Hold errV (fun k => k < w.heap.size) w := hv0.wide hR.size
  have hR0 := hR.start glOK hsG
  have hva0 : VRs (fun i => if i < gN then ρ i else none) (withM (sgD zz s name fs t) m) [.sym 0] va.toList := plains_any (plains_all (l := [.sym 0]) rfl) hva
  cases hm : mC errV with
  | none => have := c1_dst errV; rw [hm] at this; cases this
  | some m1 =>
    have hfr : enterA (EMl errV headO [] []) fSplit [.sym 0, .str [32]] .normal = some m1.fr := by have := c1_fr errV; rwa [hm] at this
    have hdst : dstIs m1 19 = true := by have := c1_dst errV; rwa [hm] at this
    have htd := c1_td errV
    have hgen := c1_gen errV
    unfold mB at htd hgen
    rw [hm] at htd hgen
    cases hm2 : behind m1 with
    | none => have htd : todoOf (behind m1) = some td1 := htd; rw [hm2] at htd; cases htd
    | some m2 =>
      have htd : todoOf (behind m1) = some td1 := htd
      have hgen : isB (behind m1) (genOK gl [] fDecodeL 135 keep1 bs1 [] [1000] [19]) = true := hgen
      rw [hm2] at htd hgen
      have htd : m2.fr.todo = td1 := Option.some.inj htd
      have hgen : genOK gl [] fDecodeL 135 keep1 bs1 [] [1000] [19] m2 = true := hgen
      obtain ⟨m0, hm0, hm1⟩ := bnd_some hm
      obtain ⟨fr, hfr0, rfl⟩ := startM_some hm0
      have ok : EnvS (EMl errV headO [] []) (withM (sgD zz s name fs t) m) := EnvS.askM (envMl _) (headO_ok (by rfl) hs) (fun r hr => by cases hr)
      have mo : MemoOK (EMl errV headO [] []) (withM (sgD zz s name fs t) m) := memoKH_ok (E := EMl errV headO [] []) rfl fun r hr => by cases hr
      have hL0 := Live.start (E := EMl errV headO [] []) (cs := cs) ok.ok hR0 hva0 hfr0
      obtain ⟨⟨M1, w1, g1, g2, g3⟩, _⟩ := hL0.run ok mo hv hm1
      have hB1 : Below w.heap.size w w1 := Below.kept (Below.refl _ _) g2 fun _ h => h
      have hv1 := hv.kept g2
      have he1 : errV w1 := hv1.now
      obtain ⟨u, w2, M2, c1, c2, ⟨N, rfl, hN, hmem⟩, c4⟩ := g3.call (E' := EMl errV headO [] []) (gl := gl) (xs := []) (fn := fDecodeL) (nt := 135) (keep := keep1) (bs := bs1) (θ := []) (μ := [1000]) (f := fSplit) (args := [.sym 0, .str [32]]) (t0 := 19) (i0 := 50) (m2 := m2)
        (Post := fun u w2 => ∃ N, u = .slice (some ⟨N, 0, none⟩) (fa.length + 1) (fa.length + 1) ∧ N = w1.heap.size ∧ memF N (fa ++ [ta]) w2) ok.ok hfr hdst hm2 hgen (by kernel_rfl) rfl glOK gl_bareM rfl fun va hva => by
          have e : va = #[strV s, strV [32]] := Array.ext' (tellsVs_funs (l := [.sym 0, .str [32]]) (ρ := fun _ => none) (ρ' := fun _ => none) rfl hva ⟨_, _, rfl, ⟨rfl, rfl⟩, _, _, rfl, ⟨_, rfl, rfl⟩, rfl⟩)
          subst e
          have hR1 : w1.cell? ⟨5, 0, none⟩ = some (.int .i64 m) := by
            have h0 := maxLen_cell hR hsG (withM_kM (sgD zz s name fs t) m)
            have : (5 : Nat) < w.heap.size := Lib.lt_of_cell h0
            rw [hB1.cell (p := ⟨5, 0, none⟩) this]; exact h0
          have hsp := Tryz.strings_Split ⟨s.toArray⟩ ⟨#[32]⟩ m w1 (by show s.toArray.size < _; rw [List.size_toArray]; omega) hR1 (by decide)
          refine hsp.mono ?_
          rintro e w2 ⟨rfl, rfl⟩
          have hcn : Lib.countB ⟨s.toArray⟩ ⟨#[32]⟩ = fa.length := by rw [es]; exact count_tail fa ta hb ht
          have hsl := splitB_tail fa ta hb ht
          rw [← es] at hsl
          refine ⟨_, rfl, rfl, (Below.refl _ _).alloc (Nat.le_refl _) _, w1.heap.size, by rw [hcn], rfl, ⟨_, _, _, heap_alloc_new _ _, by rw [← hsl]⟩, ?_⟩
          exact (errV_hold w1 he1).keep _ _ he1 (New.below (New.alloc w1 _) fun k hk => hk)
      subst hN
      have hB2 : Below w.heap.size w w2 := hB1.trans (c2.mono hB1.size)
      have hcell : w1.heap.size < w2.heap.size := by
        obtain ⟨⟨_, _, _, e1, _⟩, _⟩ := hmem
        exact lt_of_get e1
      have hv2 : Hold errV (fun k => k < w.heap.size) w2 := hv.kept ⟨hB2.os, hB2.tape, hB2.output, hB2.size, fun k hk => hB2.block k hk⟩
      have := hcont w1.heap.size cs (fun i => if i < gN then ρ i else none) w w2 M2 hB1.size hmem hB2 hv2 fun σ' E' h50 hkM => by
        obtain ⟨b', q1, q2, q3⟩ := c4 σ' h50 (by rw [hkM]; exact (withM_kM _ _).symm) trivial
        rw [htd] at q3
        refine ⟨b', q2 _ (Nat.le_refl _) hcell, q1, ?_⟩
        exact Live.env q3 rfl (by kernel_rfl)
      have fin := Fin.steps (g1.trans c1) this B ρ sc v s2 hR (fun g hg => by simp only [if_pos hg]) hpl
      exact fin
end
end Go.Proofs.YtnnhijfbdkokkaaGreatDoor

/-! The law's Decode at any string: the digits' loops. -/
namespace Go.Proofs.YtnnhijfbdkokkaaGreatDoor
open Go Go.Eng Go.RowKit
noncomputable section
set_option maxRecDepth 100000

theorem wrap_u64 {z : Int} (h0 : 0 ≤ z) (h1 : z < 18446744073709551616) : IntKind.wrap .u64 z = z := by
  have e1 : (2 : Int) ^ 64 = 18446744073709551616 := by decide
  unfold IntKind.wrap
  simp only [IntKind.bits, IntKind.signed, e1, Bool.false_and, Bool.false_eq_true, if_false]
  omega
theorem wrap_u8 {z : Int} (h0 : 0 ≤ z) (h1 : z < 256) : IntKind.wrap .u8 z = z := by
  have e1 : (2 : Int) ^ 8 = 256 := by decide
  unfold IntKind.wrap
  simp only [IntKind.bits, IntKind.signed, e1, Bool.false_and, Bool.false_eq_true, if_false]
  omega
theorem natAt_get {x : List UInt8} {j : Nat} (h : j < x.length) : (nats x)[j]? = some (natAt x j) := by
  unfold natAt
  rw [List.getElem?_eq_getElem (by rw [nats_len]; exact h)]; rfl
theorem natAt_lt (x : List UInt8) (j : Nat) : natAt x j < 256 := by
  unfold natAt nats
  rw [List.getElem?_map]
  cases x[j]? with
  | none => exact Nat.zero_lt_succ _
  | some c => exact c.toNat_lt
theorem natAt_eq {x : List UInt8} {j : Nat} (h : j < x.length) : natAt x j = (x[j]).toNat := by
  unfold natAt nats
  rw [List.getElem?_map, List.getElem?_eq_getElem h]; rfl
theorem take_next {x : List UInt8} {j : Nat} (h : j < x.length) : x.take (j + 1) = x.take j ++ [x[j]] := by
  rw [List.take_add_one, List.getElem?_eq_getElem h]; rfl
theorem nv_next {x : List UInt8} {j : Nat} (h : j < x.length) : nv (x.take (j + 1)) = 10 * nv (x.take j) + (natAt x j - 48) := by
  rw [take_next h, nv_snoc, natAt_eq h]
section
variable {N : Nat} {zz : Nat → Value} {s name : List UInt8} {fs : List (List UInt8)} {t : List UInt8} {i j k : Nat} {m : Int} {E : Env} (hT : E.ty = E0.ty) (hi : i < 2)
include hi
omit hi in
theorem cW_x {q : Nat} (h : q < 2) : conc (withM (sgW zz N s name fs t k i j) m) (.sym (Nat.add 15 q)) = .str (nats (xN fs q)) := by
  show concS _ (withM (sgW zz N s name fs t k i j) m (Nat.add 15 q)) = _
  rw [sgW_x h]; rfl
omit hi in
theorem cW_l {q : Nat} (h : q < 2) : conc (withM (sgW zz N s name fs t k i j) m) (.sym (Nat.add 85 q)) = .int .i64 ((xN fs q).length : Nat) := by
  show concS _ (withM (sgW zz N s name fs t k i j) m (Nat.add 85 q)) = _
  rw [sgW_l h]; rfl
include hT
theorem orLp_ok (hj : j < (xN fs i).length) {b1 b2 b3 : Bool} (h1 : b1 = decide (natAt (xN fs i) j < 48)) (h2 : b2 = decide (57 < natAt (xN fs i) j)) (h3 : b3 = decide (18 < j)) : ∀ r ∈ orLp i b1 b2 b3, RowOK E 9 (withM (sgW zz N s name fs t k i j) m) r := by
  intro r hr
  simp only [orLp, List.mem_cons, List.mem_nil_iff, or_false] at hr
  rcases hr with rfl | rfl | rfl | rfl | rfl
  · exact RowOK.cmp .i64 (x := ((j : Nat) : Int)) (y := (((xN fs i).length : Nat) : Int)) rfl (cW_l hi) (.inr (.inr (.inl ⟨rfl, by symm; rw [decide_eq_true_eq]; omega⟩)))
  · exact RowOK.idx (typ9 hT) (x := nats (xN fs i)) (k := .i64) (n := j) (c := natAt (xN fs i) j) (cW_x hi) rfl (natAt_get hj) rfl
  · exact RowOK.cmp .u8 (x := ((natAt (xN fs i) j : Nat) : Int)) (y := 48) rfl rfl (.inr (.inr (.inl ⟨rfl, by rw [h1, decide_eq_decide]; omega⟩)))
  · exact RowOK.cmp .u8 (x := ((natAt (xN fs i) j : Nat) : Int)) (y := 57) rfl rfl (.inr (.inr (.inr (.inr (.inl ⟨rfl, by rw [h2, decide_eq_decide]; omega⟩)))))
  · exact RowOK.cmp .i64 (x := ((j : Nat) : Int)) (y := 18) rfl rfl (.inr (.inr (.inr (.inr (.inl ⟨rfl, by rw [h3, decide_eq_decide]; omega⟩)))))
omit hi in
theorem orGo_ok (hc : 48 ≤ natAt (xN fs i) j) (hd : natAt (xN fs i) j ≤ 57) (ha : nv ((xN fs i).take j) < 1000000000000000000) (hj : j ≤ 18) : ∀ r ∈ orGo, RowOK E 9 (withM (sgW zz N s name fs t k i j) m) r := by
  generalize hA : nv ((xN fs i).take j) = A at ha
  generalize hC : natAt (xN fs i) j = c at hc hd
  have e90 : withM (sgW zz N s name fs t k i j) m 90 = .int .u64 (A : Nat) := by rw [← hA]; rfl
  have e92 : withM (sgW zz N s name fs t k i j) m 92 = .int .u8 (c : Nat) := by rw [← hC]; rfl
  have e93 : withM (sgW zz N s name fs t k i j) m 93 = .int .u64 (10 * A : Nat) := by rw [← hA]; rfl
  have e94 : withM (sgW zz N s name fs t k i j) m 94 = .int .u8 (c - 48 : Nat) := by rw [← hC]; rfl
  have e95 : withM (sgW zz N s name fs t k i j) m 95 = .int .u64 (c - 48 : Nat) := by rw [← hC]; rfl
  have e96 : withM (sgW zz N s name fs t k i j) m 96 = .int .u64 (10 * A + (c - 48) : Nat) := by rw [← hA, ← hC]; rfl
  have cc : ∀ {q : Nat} {kd : IntKind} {z : Int}, withM (sgW zz N s name fs t k i j) m q = .int kd z → conc (withM (sgW zz N s name fs t k i j) m) (.sym q) = .int kd z := fun {q kd z} e => by
    show concS _ (withM (sgW zz N s name fs t k i j) m q) = _
    rw [e]; rfl
  intro r hr
  simp only [orGo, List.mem_cons, List.mem_nil_iff, or_false] at hr
  rcases hr with rfl | rfl | rfl | rfl | rfl
  · exact conc_int_row (op := .mul) (k := .u64) (x := 10) (y := ((A : Nat) : Int)) rfl (cc e90) ⟨by decide, by decide⟩ (by
      show some (AV.int .u64 (fastWrap .u64 (10 * ((A : Nat) : Int)))) = _
      rw [fastWrap_eq, wrap_u64 (by omega) (by omega), cc e93]; rfl)
  · exact conc_int_row (op := .sub) (k := .u8) (x := ((c : Nat) : Int)) (y := 48) (cc e92) rfl ⟨by decide, by decide⟩ (by
      show some (AV.int .u8 (fastWrap .u8 (((c : Nat) : Int) - 48))) = _
      rw [fastWrap_eq, wrap_u8 (by omega) (by omega), cc e94]
      congr 2; omega)
  · refine RowOK.conv (u := tU8) (d := tU64) (k := .u8) (k' := .u64) (n := ((c - 48 : Nat) : Int)) ?_ ?_ (cc e94) ?_ (by decide)
    · unfold und; rw [hT]; kernel_rfl
    · unfold und; rw [hT]; kernel_rfl
    · rw [cc e95, wrap_u64 (by omega) (by omega)]
  · exact conc_int_row (op := .add) (k := .u64) (x := ((10 * A : Nat) : Int)) (y := ((c - 48 : Nat) : Int)) (cc e93) (cc e95) ⟨by decide, by decide⟩ (by
      show some (AV.int .u64 (fastWrap .u64 (((10 * A : Nat) : Int) + ((c - 48 : Nat) : Int)))) = _
      rw [fastWrap_eq, wrap_u64 (by omega) (by omega), cc e96]
      congr 2)
  · exact RowOK.add64 (x := ((j : Nat) : Int)) (y := 1) (z := ((j + 1 : Nat) : Int)) rfl rfl rfl (by omega) (by omega) (by omega)
omit hi in
theorem lenO_ok {q : Nat} (h : q < 2) : RowOK E 9 (withM (sgW zz N s name fs t k i j) m) (lenO q) :=
  RowOK.len (typ9 hT) (x := nats (xN fs q)) (cW_x h) (by rw [cW_l h, nats_len]; rfl)
theorem orEx_ok (hj : j = (xN fs i).length) {a b g : Bool} (h1 : a = decide (xN fs i = [])) (h2 : b = decide (9223372036854775807 < nv ((xN fs i).take j))) (h3 : g = decide (1 < (xN fs i).length)) : ∀ r ∈ orEx i a b g, RowOK E 9 (withM (sgW zz N s name fs t k i j) m) r := by
  intro r hr
  simp only [orEx, List.mem_cons, List.mem_nil_iff, or_false] at hr
  rcases hr with rfl | rfl | rfl | rfl | rfl
  · exact RowOK.cmp .i64 (x := ((j : Nat) : Int)) (y := (((xN fs i).length : Nat) : Int)) rfl (cW_l hi) (.inr (.inr (.inl ⟨rfl, by symm; rw [decide_eq_false_iff_not]; omega⟩)))
  · refine RowOK.seq (p := nats (xN fs i)) (q := nats []) (cW_x hi) rfl (.inl ⟨rfl, ?_⟩)
    rw [h1, decide_eq_decide]; exact nats_iff.symm
  · exact RowOK.cmp .u64 (x := ((nv ((xN fs i).take j) : Nat) : Int)) (y := 9223372036854775807) rfl rfl (.inr (.inr (.inr (.inr (.inl ⟨rfl, by rw [h2, decide_eq_decide]; omega⟩)))))
  · exact lenO_ok hT hi
  · exact RowOK.cmp .i64 (x := (((xN fs i).length : Nat) : Int)) (y := 1) (cW_l hi) rfl (.inr (.inr (.inr (.inr (.inl ⟨rfl, by rw [h3, decide_eq_decide]; omega⟩)))))
theorem orZ1_ok (h0 : 0 < (xN fs i).length) {z : Bool} (h1 : z = decide (natAt (xN fs i) 0 = 48)) : ∀ r ∈ orZ1 i z, RowOK E 9 (withM (sgW zz N s name fs t k i j) m) r := by
  intro r hr
  simp only [orZ1, List.mem_cons, List.mem_nil_iff, or_false] at hr
  rcases hr with rfl | rfl
  · exact RowOK.idx (typ9 hT) (x := nats (xN fs i)) (k := .i64) (n := 0) (c := natAt (xN fs i) 0) (cW_x hi) rfl (natAt_get h0) rfl
  · exact RowOK.cmp .u8 (x := ((natAt (xN fs i) 0 : Nat) : Int)) (y := 48) rfl rfl (.inl ⟨rfl, by rw [h1, decide_eq_decide]; omega⟩)
theorem orCv_ok (hv : nv ((xN fs i).take j) < 9223372036854775808) (e : atoiN (xN fs i) = (nv ((xN fs i).take j) : Nat)) : RowOK E 9 (withM (sgW zz N s name fs t k i j) m) (orCv i) := by
  refine RowOK.conv (u := tU64) (d := tInt) (k := .u64) (k' := .i64) (n := ((nv ((xN fs i).take j) : Nat) : Int)) ?_ ?_ rfl ?_ (by decide)
  · unfold und; rw [hT]; kernel_rfl
  · unfold und; rw [hT]; kernel_rfl
  · show concS _ (withM (sgW zz N s name fs t k i j) m (Nat.add 5 i)) = _
    rw [sgW_v hi, e, wrap64_id (by omega) (by omega)]; rfl
end

/-! ### The loop -/
theorem tdN_noD : ∀ i, i < 2 → noD (tdN i) = true := by
  have h : allB (fun i => noD (tdN i)) two2 = true := by kernel_rfl
  intro i hi
  exact allB_spec h i (by
    have : ∀ i, i < 2 → i ∈ two2 := by decide
    exact this i hi)
theorem runGo (V : World → Prop) {i : Nat} (hi : i < 2) : toPat (EGo V i) gl [] 8 1000 0 fDecodeL 135 (keepN i) (bsN i) (fromN (.sym 96) (.sym 97)) (muN i) (ptN i) = some (tdN i) := by
  match i, hi with
  | 0, _ => exact runGo0 V
  | 1, _ => exact runGo1 V
theorem ptN_eq {i : Nat} (hi : i < 2) : ptN i = patM gl [] fDecodeL 135 (tdN i) (keepN i) (bsN i) := by
  match i, hi with
  | 0, _ => rfl
  | 1, _ => rfl
section
variable {N : Nat} {zz : Nat → Value} {s name : List UInt8} {fs : List (List UInt8)} {t : List UInt8} {i : Nat} {m : Int} {img : Img} {cs : List Frame} {w : World} {ρ0 : Rho}
def VW (N : Nat) (name : List UInt8) (fs : List (List UInt8)) (t : List UInt8) : World → Prop := memF N (name :: (fs ++ [t]))
/-- A place on the way: what stands, and what the machine's state is. -/
structure At (N : Nat) (name : List UInt8) (fs : List (List UInt8)) (t : List UInt8) (w : World) (ρ0 : Rho) (σ : Nat → Value) (cs : List Frame) (mm : AM) (M : Machine) where
  b : Nat → Prop
  w1 : World
  bN : b N
  bl : ∀ j, j < w.heap.size → b j
  below : Below w.heap.size w w1
  hold : Hold (VW N name fs t) b w1
  live : ∀ E : Env, Live E b ρ0 σ cs mm M w1
theorem two_mem {i : Nat} (hi : i < 2) : i ∈ two2 := by
  have : ∀ i, i < 2 → i ∈ two2 := by decide
  exact this i hi
/-- On to a pattern. -/
theorem At.next {σ σ' : Nat → Value} {mm : AM} {M : Machine} {o mr : List OR} {kr : List KR} (h : At N name fs t w ρ0 σ cs mm M) (ok : EnvS (EMl (VW N name fs t) o mr kr) σ) (mo : MemoOK (EMl (VW N name fs t) o mr kr) σ) {L n k : Nat} {keep : List (Nat × AV)} {bs : List Blk} {θ : List (Nat × AV)} {μ : List Nat} {td : List AItem}
    (hx : toPat (EMl (VW N name fs t) o mr kr) gl [] L n k fDecodeL 135 keep bs θ μ mm = some td) (hn : noD td = true) (hM : σ' kM = σ kM) (hθ : TheOK σ σ' θ) : ∃ M', Steps Tryz.prog M M' ∧ Nonempty (At N name fs t w ρ0 σ' cs (patM gl [] fDecodeL 135 td keep bs) M') := by
  obtain ⟨M', w', b', g1, g2, g3, g4⟩ := (h.live (EMl (VW N name fs t) o mr kr)).toPat (E' := E0) (σ' := σ') ok mo h.hold hx glOK gl_bareM rfl hM hθ
  exact ⟨M', g1, ⟨⟨b', w', g3 _ h.bN, fun j hj => g3 _ (h.bl j hj), Below.kept h.below g2 h.bl, (h.hold.kept g2).wide g3, fun E => Live.env g4 rfl hn⟩⟩⟩
theorem At.form {σ σD : Nat → Value} {mm : AM} {M : Machine} {o mr : List OR} {kr : List KR} (h : At N name fs t w ρ0 σ cs mm M) (ok : EnvS (EMl (VW N name fs t) o mr kr) σ) (mo : MemoOK (EMl (VW N name fs t) o mr kr) σ) {n : Nat} (hx : retIs (EMl (VW N name fs t) o mr kr) fDecodeL formA (runS (EMl (VW N name fs t) o mr kr) doneA n mm) = true) : Fin σD formI cs w ρ0 M :=
  fin_form (E := EMl (VW N name fs t) o mr kr) rfl ok mo h.hold (h.live _) h.below h.bl hx
theorem At.toEnd {σ : Nat → Value} {mm : AM} {M : Machine} {o mr : List OR} {kr : List KR} (h : At N name fs t w ρ0 σ cs mm M) (ok : EnvS (EMl (VW N name fs t) o mr kr) σ) (mo : MemoOK (EMl (VW N name fs t) o mr kr) σ) {n : Nat} {ns : List Nat} {img : Img} (hx : imgIs (EMl (VW N name fs t) o mr kr) fDecodeL ns img (runS (EMl (VW N name fs t) o mr kr) doneA n mm) = true) : Fin σ img cs w ρ0 M :=
  fin_img (E := EMl (VW N name fs t) o mr kr) rfl ok mo h.hold (h.live _) h.below h.bl hx
theorem envS_of {σ : Nat → Value} {o mr : List OR} {kr : List KR} {V : World → Prop} (ho : ∀ r ∈ o, RowOK (EMl V o mr kr) 9 σ r) (hm : ∀ r ∈ mr, RowM (EMl V o mr kr) σ r) : EnvS (EMl V o mr kr) σ := EnvS.askM (envMl _) ho hm
theorem memo_of {σ : Nat → Value} {o mr : List OR} {kr : List KR} {V : World → Prop} (h : ∀ r ∈ kr, KRow Tryz.prog gl σ r.f r.args r.img V) : MemoOK (EMl V o mr kr) σ := memoKH_ok (E := EMl V o mr kr) rfl h

theorem loop_fin (hi : i < 2) (hbad : ¬ numOK (xN fs i) → img = formI)
    (hexit : numOK (xN fs i) → ∀ M, At N name fs t w ρ0 (withM (sgW zz N s name fs t 2 i (xN fs i).length) m) cs (ptN i) M → Fin (withM (sgD zz s name fs t) m) img cs w ρ0 M) :
    ∀ d j, (xN fs i).length - j = d → j ≤ (xN fs i).length → j ≤ 19 → digs ((xN fs i).take j) → ∀ M, At N name fs t w ρ0 (withM (sgW zz N s name fs t 2 i j) m) cs (ptN i) M → Fin (withM (sgD zz s name fs t) m) img cs w ρ0 M := by
  intro d
  induction d with
  | zero =>
    intro j hd hj _ hdig M hA
    obtain rfl : j = (xN fs i).length := by omega
    by_cases hok : numOK (xN fs i)
    · exact hexit hok M hA
    rw [hbad hok]
    rw [List.take_length] at hdig
    have hno : ¬ (xN fs i ≠ [] ∧ nv (xN fs i) < 9223372036854775808 ∧ (1 < (xN fs i).length → ∃ c r, xN fs i = c :: r ∧ c.toNat ≠ 48)) := fun h => hok ((num_law hdig).1 h)
    by_cases he : xN fs i = []
    · exact hA.form (envS_of (fun r hr => orEx_ok (by rfl) hi rfl (decide_eq_true he).symm rfl rfl r hr) (fun r hr => by cases hr)) (memo_of fun r hr => by cases hr) (allB_spec (runBa _ _ _) i (two_mem hi))
    · have hpos : 0 < (xN fs i).length := List.length_pos_iff.2 he
      refine hA.form (envS_of (o := orEx i false (decide (9223372036854775807 < nv ((xN fs i).take (xN fs i).length))) (decide (1 < (xN fs i).length)) ++ orZ1 i (decide (natAt (xN fs i) 0 = 48))) (fun r hr => ?_) (fun r hr => by cases hr)) (memo_of fun r hr => by cases hr) (allB_spec (runBb _ _ _ _ ?_) i (two_mem hi))
      · rcases List.mem_append.1 hr with hr | hr
        · exact orEx_ok (by rfl) hi rfl (decide_eq_false he).symm rfl rfl r hr
        · exact orZ1_ok (by rfl) hi hpos rfl r hr
      · rw [List.take_length]
        simp only [Bool.or_eq_true, Bool.and_eq_true, decide_eq_true_eq]
        by_cases hb : 9223372036854775807 < nv (xN fs i)
        · exact .inl hb
        · refine .inr ?_
          by_cases h1 : 1 < (xN fs i).length
          · refine ⟨h1, ?_⟩
            by_cases h2 : natAt (xN fs i) 0 = 48
            · exact h2
            · refine absurd ⟨he, by omega, fun _ => ?_⟩ hno
              rw [natAt_eq hpos] at h2
              cases hx : xN fs i with
              | nil => exact absurd hx he
              | cons c r => exact ⟨c, r, rfl, by simpa [hx] using h2⟩
          · exact absurd ⟨he, by omega, fun h => absurd h h1⟩ hno
  | succ d ih =>
    intro j hd hj h19 hdig M hA
    have hlt : j < (xN fs i).length := by omega
    by_cases hb : natAt (xN fs i) j < 48 ∨ 57 < natAt (xN fs i) j ∨ 18 < j
    · have hno : ¬ numOK (xN fs i) := fun h => by
        obtain ⟨_, _, _, h4, _, h6, _, _⟩ := h.val
        have := h4 _ (List.getElem_mem hlt)
        rw [← natAt_eq hlt] at this
        omega
      rw [hbad hno]
      exact hA.form (envS_of (fun r hr => orLp_ok (by rfl) hi hlt rfl rfl rfl r hr) (fun r hr => by cases hr)) (memo_of fun r hr => by cases hr) (allB_spec (runBad _ _ _ _ (by simp only [Bool.or_eq_true, decide_eq_true_eq]; omega)) i (two_mem hi))
    · have hacc : nv ((xN fs i).take j) < 1000000000000000000 := by
        have h1 := nv_lt hdig
        have h2 : (10 : Nat) ^ ((xN fs i).take j).length ≤ 10 ^ 18 := Nat.pow_le_pow_right (by omega) (by rw [List.length_take]; omega)
        have h3 : (10 : Nat) ^ 18 = 1000000000000000000 := by decide
        omega
      obtain ⟨M', g1, ⟨hA'⟩⟩ := hA.next (σ' := withM (sgW zz N s name fs t 2 i (j + 1)) m) (envS_of (o := orLp i false false false ++ orGo) (mr := []) (kr := []) (fun r hr => by
          rcases List.mem_append.1 hr with hr | hr
          · exact orLp_ok (by rfl) hi hlt (decide_eq_false (by omega)).symm (decide_eq_false (by omega)).symm (decide_eq_false (by omega)).symm r hr
          · exact orGo_ok (by rfl) (by omega) (by omega) hacc (by omega) r hr) (fun r hr => by cases hr)) (memo_of fun r hr => by cases hr) (runGo _ hi) (tdN_noD i hi) rfl
        ⟨by show some (Value.int .u64 ((10 * nv ((xN fs i).take j) + (natAt (xN fs i) j - 48) : Nat) : Int)) = some (.int .u64 ((nv ((xN fs i).take (j + 1)) : Nat) : Int)); rw [nv_next hlt], rfl, rfl, rfl, rfl, rfl, rfl, rfl, rfl, rfl, rfl, rfl, rfl, trivial⟩
      rw [← ptN_eq hi] at hA'
      refine Fin.steps g1 (ih (j + 1) (by omega) (by omega) (by omega) ?_ M' hA')
      rw [take_next hlt]
      intro c hc
      rcases List.mem_append.1 hc with hc | hc
      · exact hdig c hc
      · simp only [List.mem_singleton] at hc
        rw [hc, ← natAt_eq hlt]; omega
end
end
end Go.Proofs.YtnnhijfbdkokkaaGreatDoor

/-! The law's Decode at any string: its rows; both Decodes hand back the same. -/
namespace Go.Proofs.YtnnhijfbdkokkaaGreatDoor
open Go Go.Eng Go.RowKit
noncomputable section
set_option maxRecDepth 100000

theorem envEMl {V : World → Prop} {o mr : List OR} {kr : List KR} : EnvOK (EMl V o mr kr) := ⟨envOK.ty, envOK.fns, envOK.mixed⟩
theorem bare_cons {f : List UInt8} {l : List (List UInt8)} (h : 32 ∉ f) (k : bare l) : bare (f :: l) := fun g hg => by
  rcases List.mem_cons.1 hg with rfl | hg
  · exact h
  · exact k g hg
def nn (k : Nat) : Nat := pick 0 [2, 1, 4, 0] k
theorem mem_badL {k j : Nat} (hk : k < 4) (hj : j < nn k) : (k, j) ∈ badL := by
  match k, hk with
  | 0, _ =>
    have hj : j < 2 := hj
    match j, hj with
    | 0, _ | 1, _ => simp [badL]
  | 1, _ =>
    have hj : j < 1 := hj
    match j, hj with
    | 0, _ => simp [badL]
  | 2, _ =>
    have hj : j < 4 := hj
    match j, hj with
    | 0, _ | 1, _ | 2, _ | 3, _ => simp [badL]
  | 3, _ => exact absurd hj (Nat.not_lt_zero _)
theorem nn_many {k : Nat} (hk : k < 4) : nn k ≤ many k ∧ nn k ≤ 4 ∧ (k ≠ 2 → nn k = many k) := by
  match k, hk with
  | 0, _ => exact ⟨Nat.le_refl _, by decide, fun _ => rfl⟩
  | 1, _ => exact ⟨Nat.le_refl _, by decide, fun _ => rfl⟩
  | 2, _ => exact ⟨by decide, by decide, fun h => absurd rfl h⟩
  | 3, _ => exact ⟨Nat.le_refl _, by decide, fun _ => rfl⟩
theorem fkind_nn {k j : Nat} (hk : k < 4) (hj : j < nn k) : fkind j = 0 ∨ fkind j = 1 := by
  have h4 := (nn_many hk).2.1
  have : ∀ j, j < 4 → fkind j = 0 ∨ fkind j = 1 := by decide
  exact this j (by omega)
theorem runLfk (V : World → Prop) {k : Nat} (hk : k < 4) (h2 : k ≠ 2) : tpF V k = some (tdF 0) := by
  match k, hk, h2 with
  | 0, _, _ => exact runLf0 V
  | 1, _, _ => rw [runLf1 V, td_s1]
  | 3, _, _ => rw [runLf3 V, td_s3]
theorem tdF_noD : noD (tdF 0) = true := by kernel_rfl
theorem mem4 {k : Nat} (hk : k < 4) : k ∈ four4 := by
  have : ∀ k, k < 4 → k ∈ four4 := by decide
  exact this k hk
section
variable {zz : Nat → Value} {s name : List UInt8} {fs : List (List UInt8)} {t : List UInt8} {m : Int}
/-- The symbols that a kind's image names stand for the same in both readings. -/
theorem thF_ok {N k i j : Nat} (hk : k < 4) : TheOK (withM (sgW zz N s name fs t k i j) m) (withM (sgD zz s name fs t) m) (thF k) := by
  match k, hk with
  | 0, _ => exact ⟨rfl, rfl, rfl, trivial⟩
  | 1, _ => exact ⟨rfl, rfl, trivial⟩
  | 2, _ => exact ⟨rfl, rfl, rfl, rfl, rfl, rfl, rfl, trivial⟩
  | 3, _ => exact ⟨rfl, trivial⟩

theorem ex_rows {N i j : Nat} (hi : i < 2) (hok : numOK (xN fs i)) (hj : j = (xN fs i).length) {V : World → Prop} {rest mr : List OR} {g z : Bool} (hg : g = decide (1 < (xN fs i).length)) (hz : z = decide (natAt (xN fs i) 0 = 48))
    (hr : ∀ r ∈ rest, RowOK (EMl V (orEx i false false g ++ (orZ1 i z ++ (orCv i :: rest))) mr []) 9 (withM (sgW zz N s name fs t 2 i j) m) r) : ∀ r ∈ orEx i false false g ++ (orZ1 i z ++ (orCv i :: rest)), RowOK (EMl V (orEx i false false g ++ (orZ1 i z ++ (orCv i :: rest))) mr []) 9 (withM (sgW zz N s name fs t 2 i j) m) r := by
  obtain ⟨h1, _, h3, _, h5, _, _, _⟩ := hok.val
  have et : (xN fs i).take j = xN fs i := by rw [hj, List.take_length]
  intro r h
  rcases List.mem_append.1 h with h | h
  · exact orEx_ok (by rfl) hi hj (decide_eq_false h5).symm (by symm; rw [decide_eq_false_iff_not, et]; omega) hg r h
  rcases List.mem_append.1 h with h | h
  · exact orZ1_ok (by rfl) hi (List.length_pos_iff.2 h5) hz r h
  rcases List.mem_cons.1 h with rfl | h
  · exact orCv_ok (by rfl) hi (by rw [et]; exact h3) (by rw [et]; exact h1)
  · exact hr r h
theorem gz_no {x : List UInt8} (hok : numOK x) : (decide (1 < x.length) && decide (natAt x 0 = 48)) = false := by
  obtain ⟨_, _, _, _, h5, _, _, h8⟩ := hok.val
  rw [Bool.eq_false_iff]
  intro h
  simp only [Bool.and_eq_true, decide_eq_true_eq] at h
  obtain ⟨c, r, e, hc⟩ := h8 h.1
  have hp : 0 < x.length := by omega
  have := natAt_eq hp
  rw [h.2] at this
  subst e
  exact hc this.symm

/-- A word that is a kind's. -/
theorem law_dec (hF : FldsOK s fs t) (hs : s.length ≤ 8192) {k : Nat} (hk : k < 4) (hn : nats name = word k) (hb : 32 ∉ name) (e : s = tailS (name :: fs) t) {img : Img}
    (hgood : (∀ i, i < many k → good fs i) → img = okI k) (hbad : ¬ (∀ i, i < many k → good fs i) → img = formI) : KRow Tryz.prog gl (withM (sgD zz s name fs t) m) fDecodeL [.sym 0] img errV := by
  refine law_via hs e (bare_cons hb hF.hb) hF.ht fun N cs ρ0 w w1 M hN hmem hB hv hL => ?_
  have m6 := many_le hk
  obtain ⟨n1, n2, n3⟩ := nn_many hk
  obtain ⟨b', q1, q2, q3⟩ := hL (withM (sgW zz N s name fs t k 0 0) m) E0 rfl (withM_kM _ _)
  have hA : At N name fs t w ρ0 (withM (sgW zz N s name fs t k 0 0) m) cs p1 M := ⟨b', w1, q1, q2, hB, memF_hold hmem q1 (hv.wide q2), fun E => Live.env q3 rfl (by kernel_rfl)⟩
  by_cases hlen : many k ≤ fs.length
  case neg =>
    rw [hbad fun h => by have := (h fs.length (by omega)).1; omega]
    exact hA.form (envS_of (fun r hr => by
      simp only [List.mem_cons, List.mem_nil_iff, or_false] at hr
      subst hr
      exact orN_ok (decide_eq_true (by omega)).symm) (mr0_ok (by rfl) (envMl _) (fun w h => h) (a := .str (word k)) (fun ρ => ⟨_, rfl, hn⟩))) (memo_of fun r hr => by cases hr) (allB_spec (runLn' _) k (mem4 hk))
  have hON : ∀ {E : Env}, RowOK E 9 (withM (sgW zz N s name fs t k 0 0) m) (orN k false) := orN_ok (decide_eq_false (by omega)).symm
  have hJK := joinK_ok (N := N) (zz := zz) (s := s) (name := name) (i := 0) (j := 0) (m := m) hF.hl hk hlen
  by_cases hnn : ∀ i, i < nn k → good fs i
  case neg =>
    rw [hbad fun h => hnn fun i hi => h i (by omega)]
    obtain ⟨j, hj, hg, hb1⟩ := first_bad (nn k) hnn
    have hjl : j < fs.length := by omega
    have hkind := fkind_nn hk hj
    refine hA.form (o := orN k false :: (lfO (fkind j) false ++ goodLO j)) (mr := mr1 k ++ mrF (Nat.succ j)) (kr := joinK k :: (lfK (fkind j) j false ++ goodLK j)) (envS_of (fun r hr => ?_) (fun r hr => ?_)) (memo_of fun r hr => ?_) (allB_spec (runLb _) (k, j) (mem_badL hk hj))
    · rcases List.mem_cons.1 hr with rfl | hr
      · exact hON
      rcases List.mem_append.1 hr with hr | hr
      · refine lfO_ok (by omega) (fun h0 => ?_) r hr
        by_cases he : fj fs j = []
        · rw [decide_eq_true he]; rfl
        · exact absurd ⟨hjl, fun _ => he, fun h => (by rw [h0] at h; cases h), fun h => (by rw [h0] at h; cases h)⟩ hb1
      · exact goodLO_ok j (by omega) hg r hr
    · rcases List.mem_append.1 hr with hr | hr
      · exact mr1_ok (by rfl) (envMl _) (fun w h => h) hlen hn r hr
      · exact mrF_ok (by rfl) (envMl _) (fun w h => h) (j + 1) (by omega) (by omega) (by omega) r hr
    · rcases List.mem_cons.1 hr with rfl | hr
      · exact hJK
      rcases List.mem_append.1 hr with hr | hr
      · refine lfK_ok (by omega) (fun h1 => ?_) r hr
        cases hp : pB (fj fs j) with
        | false => rfl
        | true => exact absurd ⟨hjl, fun h => (by rw [h1] at h; cases h), fun _ => hp, fun h => (by rw [h1] at h; cases h)⟩ hb1
      · exact goodLK_ok j (by omega) hg r hr
  have rowsO : ∀ {E : Env}, ∀ q, q ≤ nn k → ∀ r ∈ goodLO q, RowOK E 9 (withM (sgW zz N s name fs t k 0 0) m) r := fun q hq => goodLO_ok q (by omega) (fun z hz => hnn z (by omega))
  have rowsK : ∀ q, q ≤ nn k → ∀ r ∈ goodLK q, KRow Tryz.prog gl (withM (sgW zz N s name fs t k 0 0) m) r.f r.args r.img (VW N name fs t) := fun q hq => goodLK_ok q (by omega) (fun z hz => hnn z (by omega))
  by_cases h2 : k = 2
  case neg =>
    rw [hgood fun i hi => hnn i (by rw [n3 h2]; exact hi)]
    obtain ⟨M', g1, ⟨hA'⟩⟩ := hA.next (σ' := withM (sgD zz s name fs t) m) (o := orN k false :: goodLO (many k)) (mr := mr1 k ++ mrF (many k)) (kr := joinK k :: goodLK (many k)) (envS_of (fun r hr => by
        rcases List.mem_cons.1 hr with rfl | hr
        · exact hON
        · exact rowsO _ (by rw [n3 h2]; exact Nat.le_refl _) r hr) (fun r hr => by
        rcases List.mem_append.1 hr with hr | hr
        · exact mr1_ok (by rfl) (envMl _) (fun w h => h) hlen hn r hr
        · exact mrF_ok (by rfl) (envMl _) (fun w h => h) (many k) m6 (Nat.le_refl _) hlen r hr)) (memo_of fun r hr => by
        rcases List.mem_cons.1 hr with rfl | hr
        · exact hJK
        · exact rowsK _ (by rw [n3 h2]; exact Nat.le_refl _) r hr) (runLfk _ hk h2) tdF_noD rfl (thF_ok hk)
    refine Fin.steps g1 ?_
    exact hA'.toEnd (o := []) (mr := []) (kr := []) (envS_of (fun r hr => by cases hr) (fun r hr => by cases hr)) (memo_of fun r hr => by cases hr) (allB_spec (runEnd _) k (mem4 hk))
  subst h2
  have hlen6 : 6 ≤ fs.length := hlen
  have g4 : ∀ {q : Nat}, (hq : q < 2) → good fs (4 + q) ↔ numOK (xN fs q) := fun {q} hq => by
    match q, hq with
    | 0, _ => exact ⟨fun h => h.2.2.2 rfl, fun h => ⟨by omega, fun h => (by cases h), fun h => (by cases h), fun _ => h⟩⟩
    | 1, _ => exact ⟨fun h => h.2.2.2 rfl, fun h => ⟨by omega, fun h => (by cases h), fun h => (by cases h), fun _ => h⟩⟩
  have hall : numOK (xN fs 0) → numOK (xN fs 1) → ∀ i, i < many 2 → good fs i := fun h0 h1 i hi => by
    have hi : i < 6 := hi
    rcases Nat.lt_or_ge i 4 with h | h
    · exact hnn i h
    · rcases (show i = 4 + 0 ∨ i = 4 + 1 by omega) with rfl | rfl
      · exact (g4 (by omega)).2 h0
      · exact (g4 (by omega)).2 h1
  -- to the first loop
  obtain ⟨M', g1, ⟨hA'⟩⟩ := hA.next (σ' := withM (sgW zz N s name fs t 2 0 0) m) (o := orN 2 false :: lenO 0 :: goodLO 4) (mr := mr1 2 ++ mrF 5) (kr := joinK 2 :: goodLK 4) (envS_of (fun r hr => by
      rcases List.mem_cons.1 hr with rfl | hr
      · exact hON
      rcases List.mem_cons.1 hr with rfl | hr
      · exact lenO_ok (by rfl) (by omega)
      · exact rowsO 4 (by decide) r hr) (fun r hr => by
      rcases List.mem_append.1 hr with hr | hr
      · exact mr1_ok (by rfl) (envMl _) (fun w h => h) hlen hn r hr
      · exact mrF_ok (by rfl) (envMl _) (fun w h => h) 5 (by omega) (by decide) (by omega) r hr)) (memo_of fun r hr => by
      rcases List.mem_cons.1 hr with rfl | hr
      · exact hJK
      · exact rowsK 4 (by decide) r hr) (runN0 _) (tdN_noD 0 (by omega)) rfl ⟨rfl, rfl, rfl, rfl, rfl, rfl, rfl, rfl, rfl, rfl, rfl, rfl, rfl, trivial⟩
  refine Fin.steps g1 (loop_fin (i := 0) (by omega) (fun h => hbad fun ha => h ((g4 (by omega)).1 (ha 4 (by decide)))) (fun ok0 M2 hA2 => ?_) _ 0 rfl (Nat.zero_le _) (by omega) (fun c hc => by cases hc) M' hA')
  -- the first number is one
  obtain ⟨M3, g3, ⟨hA3⟩⟩ := hA2.next (σ' := withM (sgW zz N s name fs t 2 1 0) m) (envS_of (ex_rows (rest := [lenO 1]) (by omega) ok0 rfl rfl rfl fun r hr => by
      simp only [List.mem_cons, List.mem_nil_iff, or_false] at hr
      subst hr
      exact lenO_ok (by rfl) (by omega)) (fun r hr => by
      have h1 := mrF1_ok (E := EMl (VW N name fs t) (orEx 0 false false (decide (1 < (xN fs 0).length)) ++ (orZ1 0 (decide (natAt (xN fs 0) 0 = 48)) ++ [orCv 0, lenO 1])) mrN []) (by rfl) envEMl (fun w h => h) (zz := zz) (s := s) (k := 2) (i := 0) (j := (xN fs 0).length) (m := m) (q := 5) (by omega) (by decide) (by omega)
      simp only [mrN, List.mem_cons, List.mem_nil_iff, or_false] at hr
      rcases hr with rfl | rfl
      · exact h1.1
      · exact h1.2)) (memo_of fun r hr => by cases hr) (runN1 _ _ _ (gz_no ok0)) (tdN_noD 1 (by omega)) rfl ⟨rfl, rfl, rfl, rfl, rfl, rfl, rfl, rfl, rfl, rfl, rfl, rfl, rfl, trivial⟩
  refine Fin.steps g3 (loop_fin (i := 1) (by omega) (fun h => hbad fun ha => h ((g4 (by omega)).1 (ha 5 (by decide)))) (fun ok1 M4 hA4 => ?_) _ 0 rfl (Nat.zero_le _) (by omega) (fun c hc => by cases hc) M3 hA3)
  -- the second one, too
  rw [hgood (hall ok0 ok1)]
  obtain ⟨M5, g5, ⟨hA5⟩⟩ := hA4.next (σ' := withM (sgD zz s name fs t) m) (envS_of (ex_rows (rest := []) (by omega) ok1 rfl rfl rfl fun r hr => by cases hr) (fun r hr => by cases hr)) (memo_of fun r hr => by cases hr) (runLf2 _ _ _ (gz_no ok1)) tdF_noD rfl (thF_ok (k := 2) (by omega))
  refine Fin.steps g5 ?_
  exact hA5.toEnd (o := []) (mr := []) (kr := []) (envS_of (fun r hr => by cases hr) (fun r hr => by cases hr)) (memo_of fun r hr => by cases hr) (allB_spec (runEnd _) 2 (mem4 hk))

/-- A word that is no kind's. -/
theorem law_no (hF : FldsOK s fs t) (hs : s.length ≤ 8192) (hn : ∀ w ∈ words4, nats name ≠ w) (hb : 32 ∉ name) (e : s = tailS (name :: fs) t) : KRow Tryz.prog gl (withM (sgD zz s name fs t) m) fDecodeL [.sym 0] formI errV := by
  refine law_via hs e (bare_cons hb hF.hb) hF.ht fun N cs ρ0 w w1 M hN hmem hB hv hL => ?_
  obtain ⟨b', q1, q2, q3⟩ := hL (withM (sgW zz N s name fs t 0 0 0) m) E0 rfl (withM_kM _ _)
  have hA : At N name fs t w ρ0 (withM (sgW zz N s name fs t 0 0 0) m) cs p1 M := ⟨b', w1, q1, q2, hB, memF_hold hmem q1 (hv.wide q2), fun E => Live.env q3 rfl (by kernel_rfl)⟩
  exact hA.form (envS_of (orNo_ok hn) (mr0_ok (by rfl) (envMl _) (fun w h => h) (a := .sym 9) (fun ρ => ⟨rfl, rfl⟩))) (memo_of fun r hr => by cases hr) (runLx _)
end

/-! ### No blank -/
def sgB (zz : Nat → Value) (N : Nat) (s name : List UInt8) (fs : List (List UInt8)) (t : List UInt8) : Nat → Value
  | 50 => .slice (some ⟨N, 0, none⟩) 1 1
  | 51 => .pointer (some ⟨N, 0 + 0, none⟩)
  | 53 => .int .i64 1
  | 9 => strV s
  | n => sgD zz s name fs t n
theorem law_bare {zz : Nat → Value} {s name : List UInt8} {fs : List (List UInt8)} {t : List UInt8} {m : Int} (hs : s.length ≤ 8192) (hb : 32 ∉ s) : KRow Tryz.prog gl (withM (sgD zz s name fs t) m) fDecodeL [.sym 0] formI errV := by
  refine law_via (fa := []) (ta := s) hs rfl (fun f hf => by cases hf) hb fun N cs ρ0 w w1 M hN hmem hB hv hL => ?_
  obtain ⟨b', q1, q2, q3⟩ := hL (withM (sgB zz N s name fs t) m) E0 rfl (withM_kM _ _)
  have hH : Hold (memF N [s]) b' w1 := memF_hold hmem q1 (hv.wide q2)
  have mr : ∀ {E : Env} {a : AV}, E.ty = E0.ty → EnvOK E → (∀ w, E.V w → memF N [s] w) → (∀ ρ, VR ρ (withM (sgB zz N s name fs t) m) a (strV s)) → ∀ r ∈ mr0 a, RowM E (withM (sgB zz N s name fs t) m) r := by
    intro E a hT ok hV ha r hr
    obtain ⟨hu, hz⟩ := typStrs hT
    obtain ⟨ti, hti, hA⟩ := tyStr hT
    simp only [mr0, List.mem_cons, List.mem_nil_iff, or_false] at hr
    rcases hr with rfl | rfl | rfl
    · exact RowM.at (u := tStrs) (n := 0) (blk := N) (off := 0) (len := 1) (cap := 1) hu hz rfl rfl (by omega) rfl ok
    · refine RowM.load (u := tStr) (blk := N) (off := 0 + 0) rfl hti hA (fun w hw => ?_) ok
      obtain ⟨⟨c, t', fr, e1, e2⟩, _⟩ := hV w hw
      exact ⟨c, t', fr, strV s, e1, by rw [← Array.getElem?_toList, e2]; rfl, ha⟩
    · exact RowM.len (u := tStrs) (len := 1) (cap := 1) (ad := some ⟨N, 0, none⟩) hu rfl rfl ok
  by_cases hn : ∀ x ∈ words4, nats s ≠ x
  · refine fin_form (E := EMl (memF N [s]) orNo (mr0 (.sym 9)) []) rfl (envS_of (fun r hr => ?_) (mr (by rfl) envEMl (fun w h => h) (fun ρ => ⟨rfl, rfl⟩))) (memo_of fun r hr => by cases hr) hH (Live.env q3 rfl (by kernel_rfl)) hB q2 (runLx _)
    unfold orNo at hr
    obtain ⟨x, hx, rfl⟩ := List.mem_map.1 hr
    exact RowOK.seq (p := nats s) (q := x) rfl rfl (.inl ⟨rfl, by rw [decide_eq_false (hn x hx)]⟩)
  · obtain ⟨k, hk, hw⟩ : ∃ k, k < 4 ∧ nats s = word k := by
      apply Classical.byContradiction
      intro h
      refine hn fun x hx e => h ?_
      simp only [words4, List.mem_cons, List.mem_nil_iff, or_false] at hx
      rcases hx with rfl | rfl | rfl | rfl
      · exact ⟨0, by omega, e⟩
      · exact ⟨1, by omega, e⟩
      · exact ⟨2, by omega, e⟩
      · exact ⟨3, by omega, e⟩
    refine fin_form (E := EMl (memF N [s]) [orN k true] (mr0 (.str (word k))) []) rfl (envS_of (fun r hr => ?_) (mr (by rfl) envEMl (fun w h => h) (a := .str (word k)) (fun ρ => ⟨_, rfl, hw⟩))) (memo_of fun r hr => by cases hr) hH (Live.env q3 rfl (by kernel_rfl)) hB q2 (allB_spec (runLn' _) k (mem4 hk))
    simp only [List.mem_cons, List.mem_nil_iff, or_false] at hr
    subst hr
    exact RowOK.cmp .i64 (x := 1) (y := ((many k + 2 : Nat) : Int)) rfl rfl (.inr (.inr (.inl ⟨rfl, by symm; rw [decide_eq_true_eq]; omega⟩)))

/-! ### Both -/
def imgs5 : List Img := [formI, okI 0, okI 1, okI 2, okI 3]
/-- What both Decodes hand back, in one reading of the symbols. -/
theorem dec_both (s : List UInt8) (hs : s.length ≤ 8192) : ∃ (name : List UInt8) (fs : List (List UInt8)) (t : List UInt8) (q : Nat), q < 5 ∧ ∀ (zz : Nat → Value) (m : Int), KRow Tryz.prog gl (withM (sgD zz s name fs t) m) fDecode [.sym 0] (pick formI imgs5 q) errV ∧ KRow Tryz.prog gl (withM (sgD zz s name fs t) m) fDecodeL [.sym 0] (pick formI imgs5 q) errV := by
  obtain ⟨fa, ta, h1, h2, h3⟩ := fields_of s
  cases fa with
  | nil =>
    have h3 : ta = s := h3
    subst h3
    exact ⟨[], [], [], 0, by omega, fun zz m => ⟨wire_bare hs h2, law_bare hs h2⟩⟩
  | cons name fs =>
    have hl : (tailS fs ta).length ≤ 1000000 := by
      have : (name ++ 32 :: tailS fs ta).length ≤ 8192 := by rw [show name ++ 32 :: tailS fs ta = s from h3]; exact hs
      rw [List.length_append, List.length_cons] at this; omega
    have hF : FldsOK s fs ta := ⟨fun f hf => h1 f (by simp [hf]), h2, hl⟩
    have hb := h1 name (by simp)
    by_cases hn : ∀ x ∈ words4, nats name ≠ x
    · exact ⟨name, fs, ta, 0, by omega, fun zz m => ⟨wire_no hs hn hb h3.symm, law_no hF hs hn hb h3.symm⟩⟩
    · obtain ⟨k, hk, hw⟩ : ∃ k, k < 4 ∧ nats name = word k := by
        apply Classical.byContradiction
        intro h
        refine hn fun x hx e => h ?_
        simp only [words4, List.mem_cons, List.mem_nil_iff, or_false] at hx
        rcases hx with rfl | rfl | rfl | rfl
        · exact ⟨0, by omega, e⟩
        · exact ⟨1, by omega, e⟩
        · exact ⟨2, by omega, e⟩
        · exact ⟨3, by omega, e⟩
      by_cases hg : ∀ i, i < many k → good fs i
      · refine ⟨name, fs, ta, k + 1, by omega, fun zz m => ?_⟩
        have e : pick formI imgs5 (k + 1) = okI k := by
          match k, hk with
          | 0, _ | 1, _ | 2, _ | 3, _ => rfl
        rw [e]
        exact ⟨(wire_dec hF hs hk hw hb h3.symm).1 hg, law_dec hF hs hk hw hb h3.symm (fun _ => rfl) (fun h => absurd hg h)⟩
      · exact ⟨name, fs, ta, 0, by omega, fun zz m => ⟨(wire_dec hF hs hk hw hb h3.symm).2 hg, law_dec hF hs hk hw hb h3.symm (fun h => absurd h hg) (fun _ => rfl)⟩⟩
end
end Go.Proofs.YtnnhijfbdkokkaaGreatDoor
