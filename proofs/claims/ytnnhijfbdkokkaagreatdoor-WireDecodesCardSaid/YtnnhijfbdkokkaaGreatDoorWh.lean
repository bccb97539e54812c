/- The law's Decode at any string: the runs on symbols, cut at its call of Split and at its loops. The law's Decode at any string: what the symbols stand for; the rows are so. No condition. -/
import Derived.Test.YtnnhijfbdkokkaaGreatDoorWf
/-! The law's Decode at any string: the runs on symbols, cut at its call of Split and at its loops. -/
namespace Go.Proofs.YtnnhijfbdkokkaaGreatDoor
open Go Go.Eng Go.RowKit
noncomputable section
set_option maxRecDepth 100000

/-! The symbols beside the others: 50 the fields, 51 the first one's place, 53 how many, 54 those behind, 56 those between, 60 .. their places, 85, 86 the numbers' lengths, 90 .. the digits' loop. -/
def EMl (V : World → Prop) (o mr : List OR) (k : List KR) : Env := ({ E0 with V := V } : Env).askM 9 o mr (memoKH gl k)
def mAt : Nat := Nat.add (Nat.mul 8 tStrs) 2
def mLen : Nat := Nat.add (Nat.mul 8 tStrs) 3
def mMid : Nat := Nat.add (Nat.mul 8 tStrs) 4
def mLo : Nat := Nat.add (Nat.mul 8 tStrs) 5
def mLd : Nat := Nat.add (Nat.mul 8 tStr) 1
def mC (V : World → Prop) : Option AM := bnd (startM (EMl V headO [] []) (stOf gl) fDecodeL [.sym 0]) (runS (EMl V headO [] []) (atCall fSplit) 1000)
def mB (V : World → Prop) : Option AM := bnd (mC V) behind
def todoOf (o : Option AM) : Option (List AItem) := match o with
  | some m => some m.fr.todo
  | none => none
def frOf (o : Option AM) : Option AFr := match o with
  | some m => some m.fr
  | none => none
def isB (o : Option AM) (p : AM → Bool) : Bool := match o with
  | some m => p m
  | none => false
def tdO (o : Option (List AItem)) : List AItem := match o with
  | some t => t
  | none => []
def td1 : List AItem := tdO (todoOf (mB fun _ => True))
def keep1 : List (Nat × AV) := [(2, .ptr 1000 0), (3, .int .i64 0), (19, .sym 50)]
def zB : Blk := .cells [.int .i64 0, .str [], .nilslice, .nilslice, .str []] tReq true
def bs1 : List Blk := [zB]
theorem c1_fr (V : World → Prop) : enterA (EMl V headO [] []) fSplit [.sym 0, .str [32]] .normal = frOf (mC V) := by kernel_rfl
theorem c1_dst (V : World → Prop) : isB (mC V) (fun m => dstIs m 19) = true := by kernel_rfl
theorem c1_td (V : World → Prop) : todoOf (mB V) = some td1 := by kernel_rfl
theorem c1_gen (V : World → Prop) : isB (mB V) (genOK gl [] fDecodeL 135 keep1 bs1 [] [1000] [19]) = true := by kernel_rfl
def p1 : AM := patM gl [] fDecodeL 135 td1 keep1 bs1

def formA : AV := .tuple [zA, .int .i64 1]
/-- Another word. -/
def orNo : List OR := words4.map fun w => ⟨11, [.sym 9, .str w], .bool false⟩
def mr0 (a : AV) : List OR := [⟨mAt, [.sym 50, .int .i64 0], .sym 51⟩, ⟨mLd, [.sym 51], a⟩, ⟨mLen, [.sym 50], .sym 53⟩]
theorem runLx (V : World → Prop) : retIs (EMl V orNo (mr0 (.sym 9)) []) fDecodeL formA (runS (EMl V orNo (mr0 (.sym 9)) []) doneA 1000 p1) = true := by kernel_rfl
/-- Fields lack. -/
def orN (k : Nat) (b : Bool) : OR := ⟨13, [.sym 53, .int .i64 (Int.ofNat (Nat.add (many k) 2))], .bool b⟩
theorem runLn' (V : World → Prop) : allB (fun k => retIs (EMl V [orN k true] (mr0 (.str (word k))) []) fDecodeL formA (runS (EMl V [orN k true] (mr0 (.str (word k))) []) doneA 1000 p1)) four4 = true := by kernel_rfl
def mr1 (k : Nat) : List OR := mr0 (.str (word k)) ++ [⟨mLo, [.sym 50, .int .i64 (Int.ofNat (Nat.add (many k) 1))], .sym 54⟩, ⟨mMid, [.sym 50, .int .i64 1, .int .i64 (Int.ofNat (Nat.add (many k) 1))], .sym 56⟩, ⟨mLen, [.sym 56], .int .i64 (Int.ofNat (many k))⟩]
def mrF (j : Nat) : List OR := Nat.rec (motive := fun _ => List OR) [] (fun i l => [⟨mAt, [.sym 56, .int .i64 (Int.ofNat i)], .sym (Nat.add 60 i)⟩, ⟨mLd, [.sym (Nat.add 60 i)], .sym (Nat.add 11 i)⟩] ++ l) j
def lfK (c i : Nat) (e : Bool) : List KR := match c with
  | 0 => []
  | 1 => [⟨fParse, [.sym (Nat.add 11 i)], ⟨.tuple [.sym (Nat.add 1 i), .bool e], []⟩⟩]
  | _ => []
def lfO (c : Nat) (e : Bool) : List OR := match c with
  | 0 => [⟨11, [.sym 11, .str []], .bool (!e)⟩]
  | _ => []
def goodLK (j : Nat) : List KR := Nat.rec (motive := fun _ => List KR) [] (fun i l => lfK (fkind i) i true ++ l) j
def goodLO (j : Nat) : List OR := Nat.rec (motive := fun _ => List OR) [] (fun i l => lfO (fkind i) true ++ l) j
def joinK (k : Nat) : KR := ⟨fJoin, [.sym 54, .str [32]], ⟨.sym (Nat.add 20 (many k)), []⟩⟩
def EK (V : World → Prop) (k : Nat) (o mr : List OR) (kr : List KR) : Env := EMl V (orN k false :: o) (mr1 k ++ mr) (joinK k :: kr)
/-- A field is none: a language, a day. -/
def badL : List (Nat × Nat) := [(0, 0), (0, 1), (1, 0), (2, 0), (2, 1), (2, 2), (2, 3)]
def EKb (V : World → Prop) (x : Nat × Nat) : Env := EK V x.1 (lfO (fkind x.2) false ++ goodLO x.2) (mrF (Nat.succ x.2)) (lfK (fkind x.2) x.2 false ++ goodLK x.2)
theorem runLb (V : World → Prop) : allB (fun x => retIs (EKb V x) fDecodeL formA (runS (EKb V x) doneA 2000 p1)) badL = true := by kernel_rfl
/-- All is as it should be, and no number among it: to where the fields are at an end. -/
def u5 : AV := .agg [.unk, .unk, .unk, .unk, .unk]
def keepF (k : Nat) : List (Nat × AV) := [(2, .ptr 1000 0), (7, .ptr 1001 0), (44, u5), (49, .int .i64 (Int.ofNat (many k))), (50, .int .i64 (Int.ofNat (many k)))] ++ pick [] [[(119, .tuple [.unk, .unk]), (121, .tuple [.unk, .unk])], [], [(119, .tuple [.unk, .unk]), (121, .tuple [.unk, .unk])], []] k
def dB : Blk := .cells [.sym 2, .sym 3, .sym 4] (Nat.add tailN tDay) true
def bsF (k : Nat) : List Blk := pick [] [[zB, .cells [.int .i64 0, .sym 11, .slice 1002 0 1 1 1, .nilslice, .sym 22] tReq true, .cells [.sym 2] tDay true],
  [zB, .cells [.int .i64 1, .sym 11, .nilslice, .nilslice, .sym 21] tReq true],
  [zB, .cells [.int .i64 2, .sym 11, .slice 1002 0 3 3 1, .slice 1003 0 2 2 1, .sym 26] tReq true, dB, .cells [.sym 5, .sym 6] (Nat.add tailN tInt) true],
  [zB, .cells [.int .i64 3, .str [], .nilslice, .nilslice, .sym 20] tReq true]] k
def muF (k : Nat) : List Nat := pick [] [[1000, 1003, 1005], [1000, 1003], [1000, 1001, 1002, 1005], [1000, 1003]] k
def thF (k : Nat) : List (Nat × AV) := pick [] [[(11, .sym 11), (22, .sym 22), (2, .sym 2)], [(11, .sym 11), (21, .sym 21)], [(11, .sym 11), (26, .sym 26), (2, .sym 2), (3, .sym 3), (4, .sym 4), (5, .sym 5), (6, .sym 6)], [(20, .sym 20)]] k
def EKg (V : World → Prop) (k : Nat) : Env := EK V k (goodLO (many k)) (mrF (many k)) (goodLK (many k))
def tpF (V : World → Prop) (k : Nat) : Option (List AItem) := toPat (EKg V k) gl [] 2 1000 (many k) fDecodeL 135 (keepF k) (bsF k) (thF k) (muF k) p1
def tdF (k : Nat) : List AItem := tdO (tpF (fun _ => True) k)
theorem runLf0 (V : World → Prop) : tpF V 0 = some (tdF 0) := by kernel_rfl
theorem runLf1 (V : World → Prop) : tpF V 1 = some (tdF 1) := by kernel_rfl
theorem runLf3 (V : World → Prop) : tpF V 3 = some (tdF 3) := by kernel_rfl

/-! ### The digits' loops -/
def nB : Blk := .cells [.sym 5] tInt true
def keepN (i : Nat) : List (Nat × AV) := [(2, .ptr 1000 0), (7, .ptr 1001 0), (8, .int .i64 (Int.ofNat (Nat.add 4 i))), (9, .sym (Nat.add 15 i)), (12, .sym 90), (44, u5), (48, .sym 56), (49, .int .i64 6), (50, .int .i64 (Int.ofNat (Nat.add 4 i))), (56, .sym (Nat.add 85 i)), (57, .sym 91), (119, .tuple [.unk, .unk]), (121, .tuple [.unk, .unk])]
def bsN (i : Nat) : List Blk := pick [] [[zB, .cells [.int .i64 2, .sym 11, .slice 1002 0 3 3 1, .nilslice, .sym 26] tReq true, dB], [zB, .cells [.int .i64 2, .sym 11, .slice 1002 0 3 3 1, .slice 1003 0 1 1 1, .sym 26] tReq true, dB, nB]] i
def sameN : List (Nat × AV) := [(2, .sym 2), (3, .sym 3), (4, .sym 4), (5, .sym 5), (11, .sym 11), (26, .sym 26), (15, .sym 15), (16, .sym 16), (56, .sym 56), (85, .sym 85), (86, .sym 86)]
def fromN (a b : AV) : List (Nat × AV) := (90, a) :: (91, b) :: sameN
def lenO (i : Nat) : OR := ⟨20, [.sym (Nat.add 15 i)], .sym (Nat.add 85 i)⟩
def EN0 (V : World → Prop) : Env := EK V 2 (lenO 0 :: goodLO 4) (mrF 5) (goodLK 4)
def tpN0 (V : World → Prop) : Option (List AItem) := toPat (EN0 V) gl [] 8 1000 0 fDecodeL 135 (keepN 0) (bsN 0) (fromN (.int .u64 0) (.int .i64 0)) [1000, 1003, 1009] p1
/-- The second loop's way from the first one is its end. -/
def orLp (i : Nat) (b1 b2 b3 : Bool) : List OR := [⟨13, [.sym 91, .sym (Nat.add 85 i)], .bool true⟩, ⟨21, [.sym (Nat.add 15 i), .sym 91], .sym 92⟩, ⟨13, [.sym 92, .int .u8 48], .bool b1⟩, ⟨15, [.sym 92, .int .u8 57], .bool b2⟩, ⟨15, [.sym 91, .int .i64 18], .bool b3⟩]
def orGo : List OR := [⟨2, [.int .u64 10, .sym 90], .sym 93⟩, ⟨1, [.sym 92, .int .u8 48], .sym 94⟩, ⟨cv tU8 tU64, [.sym 94], .sym 95⟩, ⟨0, [.sym 93, .sym 95], .sym 96⟩, ⟨0, [.sym 91, .int .i64 1], .sym 97⟩]
def orEx (i : Nat) (a b g : Bool) : List OR := [⟨13, [.sym 91, .sym (Nat.add 85 i)], .bool false⟩, ⟨11, [.sym (Nat.add 15 i), .str []], .bool a⟩, ⟨15, [.sym 90, .int .u64 9223372036854775807], .bool b⟩, lenO i, ⟨15, [.sym (Nat.add 85 i), .int .i64 1], .bool g⟩]
def orZ1 (i : Nat) (z : Bool) : List OR := [⟨21, [.sym (Nat.add 15 i), .int .i64 0], .sym 98⟩, ⟨11, [.sym 98, .int .u8 48], .bool z⟩]
def orCv (i : Nat) : OR := ⟨cv tU64 tInt, [.sym 90], .sym (Nat.add 5 i)⟩
def mrN : List OR := [⟨mAt, [.sym 56, .int .i64 5], .sym 65⟩, ⟨mLd, [.sym 65], .sym 16⟩]
def tdN0 : List AItem := tdO (tpN0 fun _ => True)
def pN0 : AM := patM gl [] fDecodeL 135 tdN0 (keepN 0) (bsN 0)
theorem runN0 (V : World → Prop) : tpN0 V = some tdN0 := by kernel_rfl
def EX0 (V : World → Prop) (g z : Bool) : Env := EMl V (orEx 0 false false g ++ (orZ1 0 z ++ [orCv 0, lenO 1])) mrN []
def tpN1 (V : World → Prop) (g z : Bool) : Option (List AItem) := toPat (EX0 V g z) gl [] 8 1000 0 fDecodeL 135 (keepN 1) (bsN 1) (fromN (.int .u64 0) (.int .i64 0)) [1000, 1001, 1002, 1004] pN0
def tdN1 : List AItem := tdO (tpN1 (fun _ => True) false false)
def pN1 : AM := patM gl [] fDecodeL 135 tdN1 (keepN 1) (bsN 1)
theorem runN1 (V : World → Prop) : ∀ g z : Bool, (g && z) = false → tpN1 V g z = some tdN1 := by
  intro g z h
  cases g <;> cases z <;> first | (cases h; done) | kernel_rfl
def EX1 (V : World → Prop) (g z : Bool) : Env := EMl V (orEx 1 false false g ++ (orZ1 1 z ++ [orCv 1])) [] []
theorem runLf2 (V : World → Prop) : ∀ g z : Bool, (g && z) = false → toPat (EX1 V g z) gl [] 2 1000 0 fDecodeL 135 (keepF 2) (bsF 2) (thF 2) (muF 2) pN1 = some (tdF 0) := by
  intro g z h
  cases g <;> cases z <;> first | (cases h; done) | kernel_rfl
def ptN (i : Nat) : AM := pick pN0 [pN0, pN1] i
def tdN (i : Nat) : List AItem := pick [] [tdN0, tdN1] i
def two2 : List Nat := [0, 1]
def muN (i : Nat) : List Nat := pick [] [[1000, 1001, 1002], [1000, 1001, 1002, 1003]] i
def EGo (V : World → Prop) (i : Nat) : Env := EMl V (orLp i false false false ++ orGo) [] []
theorem runGo0 (V : World → Prop) : toPat (EGo V 0) gl [] 8 1000 0 fDecodeL 135 (keepN 0) (bsN 0) (fromN (.sym 96) (.sym 97)) (muN 0) (ptN 0) = some (tdN 0) := by kernel_rfl
theorem runGo1 (V : World → Prop) : toPat (EGo V 1) gl [] 8 1000 0 fDecodeL 135 (keepN 1) (bsN 1) (fromN (.sym 96) (.sym 97)) (muN 1) (ptN 1) = some (tdN 1) := by kernel_rfl
def ELp (V : World → Prop) (i : Nat) (b1 b2 b3 : Bool) : Env := EMl V (orLp i b1 b2 b3) [] []
theorem runBad (V : World → Prop) : ∀ b1 b2 b3 : Bool, (b1 || b2 || b3) = true → allB (fun i => retIs (ELp V i b1 b2 b3) fDecodeL formA (runS (ELp V i b1 b2 b3) doneA 1000 (ptN i))) two2 = true := by
  intro b1 b2 b3 h
  cases b1 <;> cases b2 <;> cases b3 <;> first | (cases h; done) | kernel_rfl
def EBa (V : World → Prop) (i : Nat) (b g : Bool) : Env := EMl V (orEx i true b g) [] []
theorem runBa (V : World → Prop) : ∀ b g : Bool, allB (fun i => retIs (EBa V i b g) fDecodeL formA (runS (EBa V i b g) doneA 1000 (ptN i))) two2 = true := by
  intro b g
  cases b <;> cases g <;> kernel_rfl
def EBb (V : World → Prop) (i : Nat) (b g z : Bool) : Env := EMl V (orEx i false b g ++ orZ1 i z) [] []
theorem runBb (V : World → Prop) : ∀ b g z : Bool, (b || (g && z)) = true → allB (fun i => retIs (EBb V i b g z) fDecodeL formA (runS (EBb V i b g z) doneA 1000 (ptN i))) two2 = true := by
  intro b g z h
  cases b <;> cases g <;> cases z <;> first | (cases h; done) | kernel_rfl
/-! ### The end -/
def ptF (k : Nat) : AM := patM gl [] fDecodeL 135 (tdF 0) (keepF k) (bsF k)
def nsF (k : Nat) : List Nat := pick [] [[1002], [], [1002, 1003], []] k
def EEnd (V : World → Prop) : Env := EMl V [] [] []
theorem td_s1 : tdF 1 = tdF 0 := by kernel_rfl
theorem td_s3 : tdF 3 = tdF 0 := by kernel_rfl
theorem runEnd (V : World → Prop) : allB (fun k => imgIs (EEnd V) fDecodeL (nsF k) (okI k) (runS (EEnd V) doneA 1000 (ptF k))) four4 = true := by kernel_rfl
end
end Go.Proofs.YtnnhijfbdkokkaaGreatDoor

/-! The law's Decode at any string: what the symbols stand for; the rows are so. -/
namespace Go.Proofs.YtnnhijfbdkokkaaGreatDoor
open Go Go.Eng Go.RowKit
noncomputable section
set_option maxRecDepth 100000

theorem envMl (V : World → Prop) : EnvOK ({ E0 with V := V } : Env) := ⟨envOK.ty, envOK.fns, envOK.mixed⟩
/-! ### The fields' block -/
def memF (N : Nat) (F : List (List UInt8)) (w : World) : Prop := (∃ c t fr, w.heap[N]? = some (.cells c t fr) ∧ c.toList = F.map strV) ∧ errV w
theorem memF_hold {N : Nat} {F : List (List UInt8)} {b : Nat → Prop} {w : World} (h : memF N F w) (hN : b N) (he : Hold errV b w) : Hold (memF N F) b w :=
  ⟨h, fun w1 w2 ⟨⟨c, t, fr, e1, e2⟩, q⟩ hK => ⟨⟨c, t, fr, by rw [hK.block N hN]; exact e1, e2⟩, he.keep _ _ q hK⟩⟩
theorem typStrs {E : Env} (h : E.ty = E0.ty) : und E tStrs = some (.slice tStr) ∧ szOf E tStr = some 1 := by
  unfold und szOf; rw [h]; exact ⟨by kernel_rfl, by kernel_rfl⟩
theorem tyStr {E : Env} (h : E.ty = E0.ty) : ∃ ti, E.ty.get tStr = some ti ∧ ti.isAgg = false := by
  rw [h]
  have h1 : (match E0.ty.get tStr with | some ti => !ti.isAgg | none => false) = true := by kernel_rfl
  split at h1
  · rename_i ti hti; exact ⟨ti, hti, by simpa using h1⟩
  · cases h1

def xN (fs : List (List UInt8)) (i : Nat) : List UInt8 := fj fs (4 + i)
def natAt (x : List UInt8) (j : Nat) : Nat := ((nats x)[j]?).getD 0
def sgW (N : Nat) (s name : List UInt8) (fs : List (List UInt8)) (t : List UInt8) (k i j : Nat) : Nat → Value
  | 50 => .slice (some ⟨N, 0, none⟩) (fs.length + 2) (fs.length + 2)
  | 51 => .pointer (some ⟨N, 0 + 0, none⟩)
  | 53 => .int .i64 ((fs.length + 2 : Nat) : Int)
  | 54 => .slice (some ⟨N, 0 + (many k + 1), none⟩) (fs.length + 2 - (many k + 1)) (fs.length + 2 - (many k + 1))
  | 56 => .slice (some ⟨N, 0 + 1, none⟩) (many k + 1 - 1) (fs.length + 2 - 1)
  | 60 => .pointer (some ⟨N, 0 + 1 + 0, none⟩)
  | 61 => .pointer (some ⟨N, 0 + 1 + 1, none⟩)
  | 62 => .pointer (some ⟨N, 0 + 1 + 2, none⟩)
  | 63 => .pointer (some ⟨N, 0 + 1 + 3, none⟩)
  | 64 => .pointer (some ⟨N, 0 + 1 + 4, none⟩)
  | 65 => .pointer (some ⟨N, 0 + 1 + 5, none⟩)
  | 85 => .int .i64 ((xN fs 0).length : Nat)
  | 86 => .int .i64 ((xN fs 1).length : Nat)
  | 90 => .int .u64 (nv ((xN fs i).take j) : Nat)
  | 91 => .int .i64 (j : Nat)
  | 92 => .int .u8 (natAt (xN fs i) j : Nat)
  | 93 => .int .u64 (10 * nv ((xN fs i).take j) : Nat)
  | 94 => .int .u8 (natAt (xN fs i) j - 48 : Nat)
  | 95 => .int .u64 (natAt (xN fs i) j - 48 : Nat)
  | 96 => .int .u64 (10 * nv ((xN fs i).take j) + (natAt (xN fs i) j - 48) : Nat)
  | 97 => .int .i64 (j + 1 : Nat)
  | 98 => .int .u8 (natAt (xN fs i) 0 : Nat)
  | n => sgD s name fs t n
section
variable {N : Nat} {s name : List UInt8} {fs : List (List UInt8)} {t : List UInt8} {k i j : Nat} {m : Int}
theorem sgW_p {q : Nat} (h : q < 6) : withM (sgW N s name fs t k i j) m (Nat.add 60 q) = .pointer (some ⟨N, 0 + 1 + q, none⟩) := by
  match q, h with
  | 0, _ | 1, _ | 2, _ | 3, _ | 4, _ | 5, _ => rfl
theorem sgW_f {q : Nat} (h : q < 6) : withM (sgW N s name fs t k i j) m (Nat.add 11 q) = strV (fj fs q) := by
  match q, h with
  | 0, _ | 1, _ | 2, _ | 3, _ | 4, _ | 5, _ => rfl
theorem sgW_r {q : Nat} (h : q < 7) : withM (sgW N s name fs t k i j) m (Nat.add 20 q) = strV (tailS (fs.drop q) t) := by
  match q, h with
  | 0, _ | 1, _ | 2, _ | 3, _ | 4, _ | 5, _ | 6, _ => rfl
theorem sgW_x {q : Nat} (h : q < 2) : withM (sgW N s name fs t k i j) m (Nat.add 15 q) = strV (xN fs q) := by
  match q, h with
  | 0, _ | 1, _ => rfl
theorem sgW_l {q : Nat} (h : q < 2) : withM (sgW N s name fs t k i j) m (Nat.add 85 q) = .int .i64 ((xN fs q).length : Nat) := by
  match q, h with
  | 0, _ | 1, _ => rfl
theorem sgW_v {q : Nat} (h : q < 2) : withM (sgW N s name fs t k i j) m (Nat.add 5 q) = .int .i64 (atoiN (xN fs q)) := by
  match q, h with
  | 0, _ | 1, _ => rfl

/-! ### What is read of the block -/
section
variable {E : Env} (hT : E.ty = E0.ty) (ok : EnvOK E) (hV : ∀ w, E.V w → memF N (name :: (fs ++ [t])) w)
include hT ok hV
theorem ld_ok {σ : Nat → Value} {p o : Nat} {a : AV} {f : List UInt8} (hp : σ p = .pointer (some ⟨N, o, none⟩)) (hf : (name :: (fs ++ [t]))[o]? = some f) (ha : ∀ ρ, VR ρ σ a (strV f)) : RowM E σ ⟨mLd, [.sym p], a⟩ := by
  obtain ⟨ti, hti, hA⟩ := tyStr hT
  refine RowM.load (u := tStr) hp hti hA (fun w hw => ?_) ok
  obtain ⟨⟨c, t', fr, e1, e2⟩, _⟩ := hV w hw
  exact ⟨c, t', fr, strV f, e1, by rw [← Array.getElem?_toList, e2, List.getElem?_map, hf]; rfl, ha⟩
theorem mr0_ok {a : AV} (ha : ∀ ρ, VR ρ (withM (sgW N s name fs t k i j) m) a (strV name)) : ∀ r ∈ mr0 a, RowM E (withM (sgW N s name fs t k i j) m) r := by
  obtain ⟨hu, hz⟩ := typStrs hT
  intro r hr
  simp only [mr0, List.mem_cons, List.mem_nil_iff, or_false] at hr
  rcases hr with rfl | rfl | rfl
  · exact RowM.at (u := tStrs) (k := 0) (n := 0) (blk := N) (off := 0) (len := fs.length + 2) (cap := fs.length + 2) hu hz rfl rfl (by omega) rfl ok
  · exact ld_ok hT ok hV (p := 51) (o := 0 + 0) rfl rfl ha
  · exact RowM.len (u := tStrs) (len := fs.length + 2) (cap := fs.length + 2) (ad := some ⟨N, 0, none⟩) hu rfl rfl ok
theorem mr1_ok (hm : many k ≤ fs.length) (hn : nats name = word k) : ∀ r ∈ mr1 k, RowM E (withM (sgW N s name fs t k i j) m) r := by
  obtain ⟨hu, hz⟩ := typStrs hT
  intro r hr
  unfold mr1 at hr
  rcases List.mem_append.1 hr with hr | hr
  · exact mr0_ok hT ok hV (a := .str (word k)) (fun ρ => ⟨_, rfl, hn⟩) r hr
  simp only [List.mem_cons, List.mem_nil_iff, or_false] at hr
  rcases hr with rfl | rfl | rfl
  · exact RowM.part (u := tStrs) (blk := N) (off := 0) (len := fs.length + 2) (cap := fs.length + 2) (lo := many k + 1) (hi := fs.length + 2) hu hz rfl (by omega) (by omega) (by omega) rfl (.inr (.inl ⟨rfl, rfl, _, .i64, rfl, rfl⟩)) ok
  · exact RowM.part (u := tStrs) (blk := N) (off := 0) (len := fs.length + 2) (cap := fs.length + 2) (lo := 1) (hi := many k + 1) hu hz rfl (by omega) (by omega) (by omega) rfl (.inl ⟨rfl, _, _, .i64, .i64, rfl, rfl, rfl⟩) ok
  · exact RowM.len (u := tStrs) (len := many k + 1 - 1) (cap := fs.length + 2 - 1) (ad := some ⟨N, 0 + 1, none⟩) hu rfl rfl ok
omit hT ok hV in
theorem field_at {q : Nat} (h : q < fs.length) : (name :: (fs ++ [t]))[0 + 1 + q]? = some (fj fs q) := by
  rw [show 0 + 1 + q = q + 1 by omega, List.getElem?_cons_succ, List.getElem?_append_left h]
  unfold fj
  rw [List.getD_eq_getElem?_getD, List.getElem?_eq_getElem h]; rfl
theorem mrF1_ok {q : Nat} (h6 : q < 6) (hk : q < many k) (h : q < fs.length) : RowM E (withM (sgW N s name fs t k i j) m) ⟨mAt, [.sym 56, .int .i64 (Int.ofNat q)], .sym (Nat.add 60 q)⟩ ∧ RowM E (withM (sgW N s name fs t k i j) m) ⟨mLd, [.sym (Nat.add 60 q)], .sym (Nat.add 11 q)⟩ := by
  obtain ⟨hu, hz⟩ := typStrs hT
  refine ⟨RowM.at (u := tStrs) (k := 0) (n := q) (blk := N) (off := 0 + 1) (len := many k + 1 - 1) (cap := fs.length + 2 - 1) hu hz rfl rfl (by omega) (sgW_p h6) ok, ?_⟩
  exact ld_ok hT ok hV (sgW_p h6) (field_at h) (fun ρ => ⟨(sgW_f h6).symm, rfl⟩)
theorem mrF_ok : ∀ q : Nat, q ≤ 6 → q ≤ many k → q ≤ fs.length → ∀ r ∈ mrF q, RowM E (withM (sgW N s name fs t k i j) m) r
  | 0, _, _, _, r, hr => by cases hr
  | q + 1, h6, hk, h, r, hr => by
    have hr : r ∈ [(⟨mAt, [.sym 56, .int .i64 (Int.ofNat q)], .sym (Nat.add 60 q)⟩ : OR), ⟨mLd, [.sym (Nat.add 60 q)], .sym (Nat.add 11 q)⟩] ++ mrF q := hr
    have h1 := mrF1_ok hT ok hV (s := s) (k := k) (i := i) (j := j) (m := m) (q := q) (by omega) (by omega) (by omega)
    rcases List.mem_append.1 hr with hr | hr
    · simp only [List.mem_cons, List.mem_nil_iff, or_false] at hr
      rcases hr with rfl | rfl
      · exact h1.1
      · exact h1.2
    · exact mrF_ok q (by omega) (by omega) (by omega) r hr
end
theorem orN_ok {E : Env} {b : Bool} (hb : b = decide (fs.length < many k)) : RowOK E 9 (withM (sgW N s name fs t k i j) m) (orN k b) :=
  RowOK.cmp .i64 (x := ((fs.length + 2 : Nat) : Int)) (y := ((many k + 2 : Nat) : Int)) rfl rfl (.inr (.inr (.inl ⟨rfl, by rw [hb, decide_eq_decide]; omega⟩)))
theorem orNo_ok {E : Env} (hn : ∀ w ∈ words4, nats name ≠ w) : ∀ r ∈ orNo, RowOK E 9 (withM (sgW N s name fs t k i j) m) r := by
  intro r hr
  unfold orNo at hr
  obtain ⟨w, hw, rfl⟩ := List.mem_map.1 hr
  exact RowOK.seq (p := nats name) (q := w) rfl rfl (.inl ⟨rfl, by rw [decide_eq_false (hn w hw)]⟩)

/-! ### Join -/
theorem c_joinF (hl : (tailS fs t).length ≤ 1000000) {q : Nat} (hq : q ≤ fs.length) : CallsV Tryz.prog gl fJoin #[.slice (some ⟨N, 0 + (q + 1), none⟩) (fs.length + 2 - (q + 1)) (fs.length + 2 - (q + 1)), strV [32]] (strV (tailS (fs.drop q) t)) (memF N (name :: (fs ++ [t]))) := by
  intro w _ ⟨⟨c, t', fr, e1, e2⟩, _⟩
  let xs : List ByteArray := (fs.drop q ++ [t]).map fun l => ⟨l.toArray⟩
  have exs : xs.length = fs.length + 2 - (q + 1) := by
    show ((fs.drop q ++ [t]).map _).length = _
    rw [List.length_map, List.length_append, List.length_drop, List.length_singleton]; omega
  have ed : xs.map (·.data.toList) = fs.drop q ++ [t] := by
    show ((fs.drop q ++ [t]).map _).map _ = _
    rw [List.map_map]
    exact List.map_id' _
  have elen : (Lib.join (xs.map (·.data.toList)) ((⟨#[32]⟩ : ByteArray).data.toList)) = tailS (fs.drop q) t := by
    rw [ed]; exact join_tail _ _
  have h := Tryz.strings_Join N (0 + (q + 1)) (fs.length + 2 - (q + 1)) xs ⟨#[32]⟩ w (fun j x hx => by
      have hx : ((fs.drop q ++ [t]).map fun l => (⟨l.toArray⟩ : ByteArray))[j]? = some x := hx
      rw [List.getElem?_map] at hx
      obtain ⟨f, hf, rfl⟩ := Option.map_eq_some_iff.1 hx
      rw [cell_at e1, ← Array.getElem?_toList, e2, List.getElem?_map]
      have : (name :: (fs ++ [t]))[0 + (q + 1) + j]? = some f := by
        rw [show 0 + (q + 1) + j = (q + j) + 1 by omega, List.getElem?_cons_succ, ← List.getElem?_drop, List.drop_append, show q - fs.length = 0 by omega, List.drop_zero]
        exact hf
      rw [this]; rfl) (lt_of_get e1) (by
      rw [exs]
      have : fs.length ≤ (tailS fs t).length := by
        clear hl e2 hq exs ed elen xs
        induction fs with
        | nil => simp
        | cons f r ih =>
          show r.length + 1 ≤ (f ++ 32 :: tailS r t).length
          rw [List.length_append, List.length_cons]; omega
      omega) (by rw [exs]; omega) (by rw [elen]; have := tail_drop_len (t := t) q fs; omega)
  rw [elen, exs] at h
  exact h
theorem joinK_ok (hl : (tailS fs t).length ≤ 1000000) (h4 : k < 4) (hm : many k ≤ fs.length) : KRow Tryz.prog gl (withM (sgW N s name fs t k i j) m) (joinK k).f (joinK k).args (joinK k).img (memF N (name :: (fs ++ [t]))) :=
  KRow.ofC (withM_kM _ _) rfl rfl (va := #[.slice (some ⟨N, 0 + (many k + 1), none⟩) (fs.length + 2 - (many k + 1)) (fs.length + 2 - (many k + 1)), strV [32]]) ⟨_, _, rfl, ⟨rfl, rfl⟩, _, _, rfl, ⟨_, rfl, rfl⟩, rfl⟩ (.inl rfl) (u := strV (tailS (fs.drop (many k)) t))
    ⟨(sgW_r (by have := many_le h4; omega)).symm, rfl⟩ (c_joinF hl hm)

/-! ### Languages and days -/
theorem lfK_ok {q : Nat} (hq : q < 6) {e : Bool} (h1 : fkind q = 1 → e = pB (fj fs q)) : ∀ r ∈ lfK (fkind q) q e, KRow Tryz.prog gl (withM (sgW N s name fs t k i j) m) r.f r.args r.img (memF N (name :: (fs ++ [t]))) := by
  have day : ∀ {a b : Nat} {l : List UInt8} {e : Bool}, e = pB l → withM (sgW N s name fs t k i j) m a = strV l → withM (sgW N s name fs t k i j) m b = .int .i64 (pN l) → KRow Tryz.prog gl (withM (sgW N s name fs t k i j) m) fParse [.sym a] ⟨.tuple [.sym b, .bool e], []⟩ (memF N (name :: (fs ++ [t]))) := fun hb ej ek => by
    rw [hb]
    exact KRow.ofC (withM_kM _ _) rfl rfl (va := #[strV _]) ⟨_, _, rfl, ⟨ej.symm, rfl⟩, rfl⟩ (.inr ⟨_, rfl, rfl⟩) (u := .tuple #[.int .i64 (pN _), .bool (pB _)]) ⟨_, rfl, _, _, rfl, ⟨ek.symm, rfl⟩, _, _, rfl, rfl, rfl⟩ (CallsV.more (c_parseE _) fun _ h => h.2)
  intro r hr
  match q, hq with
  | 0, _ => cases hr
  | 1, _ =>
    have hr : r ∈ [(⟨fParse, [.sym 12], ⟨.tuple [.sym 2, .bool e], []⟩⟩ : KR)] := hr
    simp only [List.mem_cons, List.mem_nil_iff, or_false] at hr
    subst hr
    exact day (h1 rfl) rfl rfl
  | 2, _ =>
    have hr : r ∈ [(⟨fParse, [.sym 13], ⟨.tuple [.sym 3, .bool e], []⟩⟩ : KR)] := hr
    simp only [List.mem_cons, List.mem_nil_iff, or_false] at hr
    subst hr
    exact day (h1 rfl) rfl rfl
  | 3, _ =>
    have hr : r ∈ [(⟨fParse, [.sym 14], ⟨.tuple [.sym 4, .bool e], []⟩⟩ : KR)] := hr
    simp only [List.mem_cons, List.mem_nil_iff, or_false] at hr
    subst hr
    exact day (h1 rfl) rfl rfl
  | 4, _ | 5, _ => cases hr
theorem lfO_ok {E : Env} {q : Nat} (hq : q < 6) {e : Bool} (h0 : fkind q = 0 → e = !decide (fj fs q = [])) : ∀ r ∈ lfO (fkind q) e, RowOK E 9 (withM (sgW N s name fs t k i j) m) r := by
  intro r hr
  match q, hq with
  | 0, _ =>
    have hr : r ∈ [(⟨11, [.sym 11, .str []], .bool (!e)⟩ : OR)] := hr
    simp only [List.mem_cons, List.mem_nil_iff, or_false] at hr
    subst hr
    refine RowOK.seq (p := nats (fj fs 0)) (q := nats []) rfl rfl (.inl ⟨rfl, ?_⟩)
    rw [h0 rfl, Bool.not_not, decide_eq_decide]
    exact nats_iff.symm
  | 1, _ | 2, _ | 3, _ | 4, _ | 5, _ => cases hr
theorem goodLK_ok : ∀ q : Nat, q ≤ 6 → (∀ z, z < q → good fs z) → ∀ r ∈ goodLK q, KRow Tryz.prog gl (withM (sgW N s name fs t k i j) m) r.f r.args r.img (memF N (name :: (fs ++ [t])))
  | 0, _, _, r, hr => by cases hr
  | q + 1, hq, h, r, hr => by
    have hg := h q (by omega)
    have hr : r ∈ lfK (fkind q) q true ++ goodLK q := hr
    rcases List.mem_append.1 hr with hr | hr
    · exact lfK_ok (by omega) (fun e => (hg.2.2.1 e).symm) r hr
    · exact goodLK_ok q (by omega) (fun z hz => h z (by omega)) r hr
theorem goodLO_ok {E : Env} : ∀ q : Nat, q ≤ 6 → (∀ z, z < q → good fs z) → ∀ r ∈ goodLO q, RowOK E 9 (withM (sgW N s name fs t k i j) m) r
  | 0, _, _, r, hr => by cases hr
  | q + 1, hq, h, r, hr => by
    have hg := h q (by omega)
    have hr : r ∈ lfO (fkind q) true ++ goodLO q := hr
    rcases List.mem_append.1 hr with hr | hr
    · exact lfO_ok (by omega) (fun e => by rw [decide_eq_false (hg.2.1 e)]; rfl) r hr
    · exact goodLO_ok q (by omega) (fun z hz => h z (by omega)) r hr
end
end
end Go.Proofs.YtnnhijfbdkokkaaGreatDoor
