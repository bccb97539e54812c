/- The engine: an abstract machine that runs closed code of any program, and its proof: part 2 of 14. No condition. -/
import Derived.Test.YtjhnpcnamclfbaaGreatDoorE01
/-! The engine's machine: frames, calls, returns; one step; a run. No condition. -/
namespace Go.Eng
noncomputable section

/-! ### Regions whose order is drawn: a plan that runs what does nothing but yield a value as early as it can, and looks again behind each operation that acts. -/
inductive PI where
  | op (o : Oper)
  | chk (o : Oper)

inductive PN where
  | op (j : Nat)
  | chk (j : Nat)

def pureB (b : Builtin) : Bool := match b with | .len | .cap | .max | .min => true | _ => false
def pureC (c : Callee) : Bool := match c with | .builtin b => pureB b | _ => false
/-- An operation that leaves the state as it is. -/
def pureO (E : Env) (o : Op) : Bool := match o with
  | .move _ | .assign _ | .pick .. | .build .. | .load .. | .nilCheck _ | .binOp .. | .unOp .. | .makeInterface .. | .makeFunc .. | .slice .. | .fieldAddr .. | .field .. | .indexAddr .. | .index .. | .lookup .. | .typeAssert .. | .extract .. => true
  | .call c => pureC c.callee
  | .convert _ b _ => match und E b with
    | some (.int _) => true
    | _ => false
  | _ => false
/-- An operation that lays a fresh block and does nothing else. -/
def softO (o : Op) : Bool := match o with
  | .alloc _ | .box .. | .buildSlice .. | .makeMap .. | .makeSlice .. => true
  | _ => false
/-- An operation whose place among its like the edges settle. -/
def ordO (E : Env) (o : Op) : Bool := match o with
  | .assign _ => true
  | o => !pureO E o && !softO o

def bindsA (e : Edge) : Bool := match e.ground with | .textOnly _ => false | .gcOnly _ => false | _ => true
def bit (m i : Nat) : Bool := Nat.testBit m i
def subM (a b : Nat) : Bool := Nat.beq (Nat.land a b) a
def orElse0 (o : Option Nat) : Nat := match o with | some m => m | none => 0

def ancE (ms : List Nat) : List Edge → Nat
  | [] => 0
  | e :: l => match bindsA e with
    | true => Nat.lor (Nat.lor (2 ^ e.on) (orElse0 (nth ms e.on))) (ancE ms l)
    | false => ancE ms l
def lowE (i : Nat) : List Edge → Bool
  | [] => true
  | e :: l => (!bindsA e || Nat.blt e.on i) && lowE i l
/-- Each operation's number, itself, what must come ahead of it. -/
structure PD where
  j : Nat
  o : Oper
  m : Nat
def ancL : List Oper → Nat → List Nat → List PD
  | [], _, _ => []
  | o :: l, i, ms => ⟨i, o, ancE ms o.after.toList⟩ :: ancL l (i + 1) (ms ++ [ancE ms o.after.toList])

def tmpsOf : List Operand → List Nat
  | [] => []
  | .tmp t :: l => t :: tmpsOf l
  | _ :: l => tmpsOf l
def guardT (ops : Array Oper) (o : Oper) : List Nat := match o.guard with
  | some (g, _) => match ops[g]? with
    | some og => match og.dst with
      | some d => [d]
      | none => []
    | none => []
  | none => []
def readsO (ops : Array Oper) (o : Oper) : List Nat := tmpsOf o.op.operands.toList ++ guardT ops o
def memN (d : Nat) : List Nat → Bool
  | [] => false
  | a :: l => Nat.beq a d || memN d l
def isDst (o : Oper) (d : Nat) : Bool := match o.dst with | some e => Nat.beq e d | none => false

/-- May the second's result be laid while the first waits? -/
def okPair (E : Env) (ops : Array Oper) (a b : PD) : Bool :=
  match b.o.dst with
  | none => true
  | some d => match Nat.beq a.j b.j with
    | true => ordO E a.o.op || !memN d (readsO ops a.o)
    | false => !(memN d (readsO ops a.o) || isDst a.o d) || bit a.m b.j || (ordO E b.o.op && bit b.m a.j)
def allP (f : PD → Bool) : List PD → Bool
  | [] => true
  | a :: l => f a && allP f l

def lead : List PN → List Nat
  | .chk j :: l => j :: lead l
  | _ => []

/-- What must hold where the plan runs an operation whose place is settled. -/
def atOrd (E : Env) (d : PD) (r : List PN) (X : Nat) (a : PD) : Bool :=
  match bit X a.j with
  | true => ordO E a.o.op || softO a.o.op || pureO E d.o.op || bit d.m a.j || memN a.j (lead r)
  | false => Nat.beq a.j d.j || (match ordO E a.o.op with | true => bit a.m d.j | false => !subM a.m X)
/-- What must hold where the plan lays a fresh block: what has been run is looked at again. -/
def atSoft (E : Env) (r : List PN) (X : Nat) (a : PD) : Bool :=
  match bit X a.j with
  | true => ordO E a.o.op || softO a.o.op || memN a.j (lead r)
  | false => true
def planOK (E : Env) (all : List PD) : List PN → Nat → Bool
  | [], X => allP (fun a => bit X a.j) all
  | .chk j :: r, X => bit X j && planOK E all r X
  | .op j :: r, X => match nth all j with
    | some d => !bit X j && subM d.m X && (!ordO E d.o.op || allP (atOrd E d r X) all) && (!softO d.o.op || allP (atSoft E r X) all) && planOK E all r (Nat.lor X (2 ^ j))
    | none => false

def fill (all : List PD) : List PN → Option (List PI)
  | [] => some []
  | .op j :: l => match nth all j with
    | some d => match fill all l with
      | some r => some (.op d.o :: r)
      | none => none
    | none => none
  | .chk j :: l => match nth all j with
    | some d => match fill all l with
      | some r => some (.chk d.o :: r)
      | none => none
    | none => none

def chksS (E : Env) : List PD → Nat → List PN → List PN
  | [], _, r => r
  | a :: l, X, r => match bit X a.j && !ordO E a.o.op && !softO a.o.op with
    | true => .chk a.j :: chksS E l X r
    | false => chksS E l X r
def stage (E : Env) (all : List PD) : List PD → Nat → List PN × Nat
  | [], X => ([], X)
  | d :: l, X => match !bit X d.j && !ordO E d.o.op && subM d.m X with
    | true => match stage E all l (Nat.lor X (2 ^ d.j)) with
      | (r, Y) => (.op d.j :: (match softO d.o.op with | true => chksS E all X r | false => r), Y)
    | false => stage E all l X
def nextE (E : Env) : List PD → Nat → Option PD
  | [], _ => none
  | d :: l, X => match !bit X d.j && ordO E d.o.op with
    | true => some d
    | false => nextE E l X
def chks (E : Env) (d : PD) : List PD → Nat → List PN
  | [], _ => []
  | a :: l, X => match bit X a.j && !ordO E a.o.op && !softO a.o.op && !pureO E d.o.op && !bit d.m a.j with
    | true => .chk a.j :: chks E d l X
    | false => chks E d l X
def mkPlan (E : Env) (all : List PD) : Nat → Nat → List PN
  | 0, _ => []
  | f + 1, X => match stage E all all X with
    | (r, Y) => match nextE E all Y with
      | none => r
      | some d => r ++ .op d.j :: (chks E d all Y ++ mkPlan E all f (Nat.lor Y (2 ^ d.j)))

def lowL : List PD → Bool
  | [] => true
  | d :: l => lowE d.j d.o.after.toList && lowL l

def dplan (E : Env) (ops : Array Oper) : Option (List PI) :=
  match ancL ops.toList 0 [] with
  | all => match mkPlan E all (len all + 1) 0 with
    | pl => match lowL all && allP (fun a => allP (okPair E ops a) all) all && planOK E all pl 0 with
      | true => fill all pl
      | false => none

mutual
def avEq : AV → AV → Bool
  | .bool a, .bool b => a == b
  | .int k a, .int j b => match a, b with
    | .ofNat a, .ofNat b => k == j && Nat.beq a b
    | .negSucc a, .negSucc b => k == j && Nat.beq a b
    | _, _ => false
  | .str a, .str b => eqNats a b
  | .nilptr, .nilptr => true
  | .ptr a b, .ptr c d => Nat.beq a c && Nat.beq b d
  | .nilslice, .nilslice => true
  | .slice a b c d e, .slice a' b' c' d' e' => Nat.beq a a' && Nat.beq b b' && Nat.beq c c' && Nat.beq d d' && Nat.beq e e'
  | .nilmap, .nilmap => true
  | .map a, .map b => Nat.beq a b
  | .func f a b, .func g c d => Nat.beq f g && avEqs a c && avEqs b d
  | .yield a, .yield b => Nat.beq a b
  | .nilFunc, .nilFunc => true
  | .iface t x, .iface u y => Nat.beq t u && avEq x y
  | .nilIface, .nilIface => true
  | .agg a, .agg b => avEqs a b
  | .tuple a, .tuple b => avEqs a b
  | .unk, .unk => true
  | .sym a, .sym b => Nat.beq a b
  | _, _ => false
def avEqs : List AV → List AV → Bool
  | [], [] => true
  | a :: l, b :: m => avEq a b && avEqs l m
  | _, _ => false
end

inductive AItem where
  | code (c : Code)
  | inBlock (id : Nat)
  | inLoop (b : Code)
  | reg (ops : Array Oper) (l : List Oper)
  | dreg (ops : Array Oper) (l : List PI)
  | inRangeFunc (l : Nat)
  | endRangeFunc (l : Nat)
  | beginRound

inductive AMode where
  | run
  | returning
  | panicking (chain : List (AV × Bool))

structure FrInf where
  fn : FuncId
  nt : Nat
  defers : List ADef
  mode : AMode
  kind : CallKind
  roundOf : Option Nat

structure AFr where
  tmps : T AV
  todo : List AItem
  inf : FrInf

structure AM where
  fr : AFr
  callers : List AFr
  st : St

def countN (c : Nat) : List Nat → Nat → Nat
  | [], n => n
  | a :: l, n => match Nat.beq a c with | true => countN c l (n + 1) | false => countN c l n

def indexN (c : Nat) : List Nat → Nat → Option Nat
  | [], _ => none
  | a :: l, i => match Nat.beq a c with | true => some i | false => indexN c l (i + 1)

/-- A call of a function without a body. -/
def extA (E : Env) (s : St) (ext : Nat) (fn : Func) (args : List AV) : Option Res :=
  match ext, args with
  | 1, [x] => some (.val x s)
  | 2, [.str l, .int .u8 (.ofNat c)] => match Nat.blt c 256 with
    | true => some (.val (.int .i64 (Int.ofNat (countN c l 0))) s)
    | false => none
  | 3, [.str l, .int .u8 (.ofNat c)] => match Nat.blt c 256 with
    | true => some (.val (.int .i64 (match indexN c l 0 with | some i => .ofNat i | none => .negSucc 0)) s)
    | false => none
  | 4, [.int .i64 (.ofNat n)] => match fn.resultTypes[0]? with
    | some t => match und E t with
      | some (.slice e) => match Nat.ble n 281474976710656 with
        | true => match newCells s (rep n [.unk]) e with
          | some (i, s') => some (.val (.slice i 0 n n 1) s')
          | none => none
        | false => none
      | _ => none
    | none => none
  | _, _ => none

def callA (E : Env) (s : St) (f : FuncId) (args : List AV) : Option Res :=
  match E.fns.get f with
  | none => none
  | some i => match i.numG with
    | true => none
    | false => match i.fn.body with
      | some _ => some (.enter f args s)
      | none => extA E s i.ext i.fn args

def builtinA (E : Env) (s : St) (b : Builtin) (ats : List TypeId) (args : List AV) : Option Res :=
  match b, ats, args with
  | .append, [t, u], [x, y] => appendA E s t u x y
  | .len, t :: _, [x] => val1 s (lenA E s t x)
  | .cap, t :: _, [x] => val1 s (capA E t x)
  | .copy, t :: _, [x, y] => copyA E s t x y
  | .clear, t :: _, [x] => clearA E s t x
  | .max, _, .int k a :: l => val1 s (foldInt maxI k a l)
  | .min, _, .int k a :: l => val1 s (foldInt minI k a l)
  | .recover, _, _ => some .recover
  | .unsafeSliceData, _, [.nilslice] => some (.val .nilptr s)
  | .unsafeSliceData, _, [.slice i o (_ + 1) _ _] => some (.val (.ptr i o) s)
  | .unsafeString, t :: _, [p, n] => unsafeStrA E s t p n
  | _, _, _ => none

def opCallA (E : Env) (tm : T AV) (s : St) (c : Call) : Option Res :=
  match aevalsF tm c.args.toList with
  | none => none
  | some args => match c.callee with
    | .value f => match aeval tm f with
      | some (.func f first cap) => callA E s f ((first ++ args) ++ cap)
      | some (.yield l) => match s.get l with
        | some (.loop _ _ _ _ _ ps _ _ _) => match Nat.beq (len args) (len ps) with
          | true => some (.round l args)
          | false => none
        | _ => none
      | _ => none
    | .builtin b => builtinA E s b c.argTypes.toList args
    | .invoke _ _ => none

def oMove (tm : T AV) (s : St) (x : Operand) : Option Res := val1 s (aeval tm x)
def oPick (tm : T AV) (s : St) (c a b : Operand) : Option Res :=
  match aeval tm c with
  | some (.bool true) => val1 s (aeval tm a)
  | some (.bool false) => val1 s (aeval tm b)
  | _ => none
def oAlloc (E : Env) (s : St) (t : TypeId) : Option Res :=
  match zeroOf E t with
  | some z => match newCells s z.cells t with
    | some (i, s') => some (.val (.ptr i 0) s')
    | none => none
  | none => none
def oBox (tm : T AV) (s : St) (t : TypeId) (x : Operand) : Option Res :=
  match aeval tm x with
  | some v => match allOne v.cells with
    | true => match newCells s v.cells t with
      | some (i, s') => some (.val (.ptr i 0) s')
      | none => none
    | false => none
  | none => none
def fieldPls (E : Env) : List Field → Option (List (Nat × Nat))
  | [] => some []
  | f :: fs => match szOf E f.type with
    | none => none
    | some n => match fieldPls E fs with
      | some l => some ((f.offset, n) :: l)
      | none => none
def oBuild (E : Env) (tm : T AV) (s : St) (t : TypeId) (parts : Array (Nat × Operand)) : Option Res :=
  match zeroOf E t with
  | none => none
  | some z => match aparts tm parts.toList with
    | none => none
    | some ps => match und E t with
      | some (.struct fs) => match fieldPls E fs.toList with
        | none => none
        | some pl => match fillA (nth pl) z.cells ps with
          | some cs => some (.val (.agg cs) s)
          | none => none
      | some (.array _ e) => match szOf E e with
        | some n => match fillA (fun i => some (i * n, n)) z.cells ps with
          | some cs => some (.val (.agg cs) s)
          | none => none
        | none => none
      | _ => none
def oBuildSlice (E : Env) (tm : T AV) (s : St) (t : TypeId) (n : Nat) (parts : Array (Nat × Operand)) : Option Res :=
  match und E t with
  | some (.slice e) => match szOf E e with
    | some (z + 1) => match zeroOf E e with
      | none => none
      | some zv => match aparts tm parts.toList with
        | none => none
        | some ps => match Nat.ble (n * (z + 1)) 16777216 && Nat.beq (len zv.cells) (z + 1) with
          | false => none
          | true => match fillA (fun i => some (i * (z + 1), z + 1)) (rep n zv.cells) ps with
            | none => none
            | some cs => match allOne cs with
              | false => none
              | true => match newCells s cs e with
                | some (i, s') => some (.val (.slice i 0 n n (z + 1)) s')
                | none => none
    | _ => none
  | _ => none
def oLoad (E : Env) (tm : T AV) (s : St) (t : TypeId) (a : Operand) : Option Res :=
  match aeval tm a with
  | some (.ptr i o) => val1 s (loadA E s t i o)
  | _ => none
def oStore (E : Env) (tm : T AV) (s : St) (t : TypeId) (a x : Operand) : Option Res :=
  match aeval tm a with
  | some (.ptr i o) => match aeval tm x with
    | none => none
    | some v => match storeA E s t i o v with
      | some s' => some (.val undefA s')
      | none => none
  | _ => none
def oNil (tm : T AV) (s : St) (x : Operand) : Option Res :=
  match aeval tm x with
  | some (.ptr i o) => some (.val (.ptr i o) s)
  | some (.func f a b) => some (.val (.func f a b) s)
  | _ => none
def bothNil (a b : AV) : Bool := match a with
  | .nilIface => match b with | .nilIface => true | _ => false
  | _ => false
def isConstO (x : Operand) : Bool := match x with | .const _ => true | _ => false
def nilEq (E : Env) (s : St) (op : BinOp) (t : TypeId) (x y : Operand) : Option Res :=
  match isConstO x || isConstO y with
  | false => none
  | true => match und E t with
    | some (.interface _) => match op with
      | .eql => some (.val (.bool true) s)
      | .neq => some (.val (.bool false) s)
      | _ => none
    | _ => none
def oBin (E : Env) (tm : T AV) (s : St) (op : BinOp) (t : TypeId) (x y : Operand) : Option Res :=
  ob (aeval tm x) fun a => ob (aeval tm y) fun b => bif_ (bothNil a b) (nilEq E s op t x y) (val1 s (binA E op t a b))
def oUn (tm : T AV) (s : St) (op : UnOp) (x : Operand) : Option Res :=
  match aeval tm x with
  | some (.bool b) => match op with
    | .not => some (.val (.bool !b) s)
    | _ => none
  | some (.int k n) => match op with
    | .neg => some (.val (.int k (fastWrap k (0 - n))) s)
    | _ => none
  | _ => none
def oConv (E : Env) (tm : T AV) (s : St) (src dst : TypeId) (x : Operand) : Option Res :=
  match aeval tm x with
  | some v => convertA E s src dst v
  | none => none
def oIface (E : Env) (tm : T AV) (s : St) (t : TypeId) (x : Operand) : Option Res :=
  match und E t with
  | none => none
  | some (.interface _) => none
  | some .invalid => none
  | some _ => match aeval tm x with
    | some v => some (.val (.iface t v) s)
    | none => none
def oFunc (tm : T AV) (s : St) (fn : Fn) (first cap : Array Operand) : Option Res :=
  match fn with
  | .func f => match aevals tm first.toList with
    | none => none
    | some a => match aevals tm cap.toList with
      | some b => some (.val (.func f a b) s)
      | none => none
  | _ => none
def oMap (E : Env) (tm : T AV) (s : St) (t : TypeId) (r : Option Operand) : Option Res :=
  match und E t with
  | some (.map _ _) => match (match r with
      | none => true
      | some x => match aeval tm x with
        | some (.int _ _) => true
        | _ => false) with
    | true => match s.new (.map [] 0) with
      | some (i, s') => some (.val (.map i) s')
      | none => none
    | false => none
  | _ => none
def oMkSlice (E : Env) (tm : T AV) (s : St) (t : TypeId) (l c : Operand) : Option Res :=
  match aeval tm l with
  | none => none
  | some a => match aeval tm c with
    | some b => makeSliceA E s t a b
    | none => none
def oSlice (E : Env) (tm : T AV) (s : St) (t : TypeId) (x : Operand) (lo hi mx : Option Operand) : Option Res :=
  match mx with
  | some _ => none
  | none => match aeval tm x with
    | some v => val1 s (sliceA E tm s t v lo hi)
    | none => none
def oFieldAddr (E : Env) (tm : T AV) (s : St) (t : TypeId) (x : Operand) (f : Nat) : Option Res :=
  match und E t with
  | some (.struct fs) => match aeval tm x with
    | some (.ptr i o) => match nth fs.toList f with
      | none => none
      | some fd => match szOf E fd.type with
        | some (_ + 1) => some (.val (.ptr i (o + fd.offset)) s)
        | _ => none
    | _ => none
  | _ => none
def oField (E : Env) (tm : T AV) (s : St) (t : TypeId) (x : Operand) (f : Nat) : Option Res :=
  match und E t with
  | some (.struct fs) => match aeval tm x with
    | some (.agg cs) => match nth fs.toList f with
      | some fd => val1 s (partA E fd.type cs fd.offset)
      | none => none
    | _ => none
  | _ => none
def oIndexAddr (E : Env) (tm : T AV) (s : St) (t : TypeId) (x ix : Operand) : Option Res :=
  match aeval tm x with
  | none => none
  | some a => match aeval tm ix with
    | some b => val1 s (indexAddrA E t a b)
    | none => none
def oIndex (E : Env) (tm : T AV) (s : St) (t : TypeId) (x ix : Operand) : Option Res :=
  match aeval tm x with
  | none => none
  | some a => match aeval tm ix with
    | some b => val1 s (indexA E t a b)
    | none => none
def oLookup (E : Env) (tm : T AV) (s : St) (t : TypeId) (x ix : Operand) (ok : Bool) : Option Res :=
  match aeval tm x with
  | none => none
  | some a => match aeval tm ix with
    | some b => val1 s (lookupA E s t a b ok)
    | none => none
def oUpdate (E : Env) (tm : T AV) (s : St) (t : TypeId) (m k x : Operand) : Option Res :=
  match aeval tm m with
  | none => none
  | some a => match aeval tm k with
    | none => none
    | some b => match aeval tm x with
      | none => none
      | some v => match mapUpdateA E s t a b v with
        | some s' => some (.val undefA s')
        | none => none
def oRange (E : Env) (tm : T AV) (s : St) (t : TypeId) (x : Operand) : Option Res :=
  match und E t with
  | some .string => match aeval tm x with
    | some (.str l) => match s.new (.siter l 0) with
      | some (i, s') => some (.val (.ptr i 0) s')
      | none => none
    | _ => none
  | some (.map _ _) => match aeval tm x with
    | some .nilmap => match s.new (.miter none 0 [] 0) with
      | some (i, s') => some (.val (.ptr i 0) s')
      | none => none
    | some (.map j) => match s.get j with
      | some (.map _ clock) => match s.new (.miter (some j) clock [] clock) with
        | some (i, s') => some (.val (.ptr i 0) s')
        | none => none
      | _ => none
    | _ => none
  | _ => none
def nilL {α : Type} : List α → Bool
  | [] => true
  | _ => false
def anyOld (last : Nat) : List (AV × AV × Nat) → Bool
  | [] => false
  | (_, _, b) :: l => Nat.blt b last || anyOld last l
def leftE (seen : List Nat) : List (AV × AV × Nat) → List (AV × AV × Nat)
  | [] => []
  | (k, v, b) :: l => match memN b seen with
    | true => leftE seen l
    | false => (k, v, b) :: leftE seen l
/-- The next entry of a map, where there is one alone that may come, or none. -/
def oNextM (tm : T AV) (s : St) (it : Operand) : Option Res :=
  match aeval tm it with
  | some (.ptr i 0) => match s.get i with
    | some (.miter none _ _ _) => some (.val (.tuple [.bool false]) s)
    | some (.miter (some j) since seen last) => match s.get j with
      | some (.map es clock) => match nilL seen || nilL es || anyOld last es with
        | true => match leftE seen es with
          | [] => some (.val (.tuple [.bool false]) s)
          | [(k, v, b)] => match Nat.blt b since with
            | true => some (.val (.tuple [.bool true, k, v]) (s.put i (.miter (some j) since (seen ++ [b]) clock)))
            | false => none
          | _ => none
        | false => none
      | _ => none
    | _ => none
  | _ => none
def lastN : List Nat → Option Nat
  | [] => none
  | a :: l => match l with
    | [] => some a
    | _ :: _ => lastN l
def findB (b : Nat) : List (AV × AV × Nat) → Option (AV × AV)
  | [] => none
  | (k, v, c) :: l => match Nat.beq c b with
    | true => some (k, v)
    | false => findB b l
/-- The entry that a map's iteration stands at. -/
def oEntry (tm : T AV) (s : St) (it : Operand) : Option Res :=
  match aeval tm it with
  | some (.ptr i 0) => match s.get i with
    | some (.miter (some j) _ seen last) => match lastN seen with
      | some b => match s.get j with
        | some (.map es clock) => match Nat.beq clock last with
          | true => match findB b es with
            | some (k, v) => some (.val (.tuple [k, v]) s)
            | none => none
          | false => none
        | _ => none
      | none => none
    | _ => none
  | _ => none
def oNext (tm : T AV) (s : St) (it : Operand) (isS : Bool) : Option Res :=
  match isS with
  | false => oNextM tm s it
  | true => match aeval tm it with
    | some (.ptr i 0) => match s.get i with
      | some (.siter l pos) => match dropN pos l with
        | none => some (.val (.tuple [.bool false]) s)
        | some r => match r with
          | [] => some (.val (.tuple [.bool false]) s)
          | _ :: _ => match decodeN r with
            | (c, w) => some (.val (.tuple [.bool true, .int .i64 (Int.ofNat pos), .int .i32 (Int.ofNat c)]) (s.put i (.siter l (pos + w))))
      | _ => none
    | _ => none
def oExtract (tm : T AV) (s : St) (x : Operand) (ix : Nat) : Option Res :=
  match aeval tm x with
  | some (.tuple vs) => val1 s (nth vs ix)
  | _ => none
def oPanic (tm : T AV) (x : Operand) : Option Res :=
  match aeval tm x with
  | some (.iface t v) => some (.panic (.iface t v))
  | _ => none
def oAssert (E : Env) (tm : T AV) (s : St) (x : Operand) (t : TypeId) (ok : Bool) : Option Res :=
  match ok with
  | false => none
  | true => match und E t with
    | none => none
    | some (.interface _) => none
    | some .invalid => none
    | some _ => match aeval tm x with
      | some (.iface t' v) => match Nat.beq t' t with
        | true => some (.val (.tuple [v, .bool true]) s)
        | false => match zeroOf E t with
          | some z => some (.val (.tuple [z, .bool false]) s)
          | none => none
      | _ => none
def oDefer (tm : T AV) (c : Call) : Option Res :=
  match c.callee with
  | .value f => match aevals tm c.args.toList with
    | none => none
    | some args => match aeval tm f with
      | some (.func f first cap) => some (.defer (.call f ((first ++ args) ++ cap)))
      | _ => none
  | _ => none

def aopT0 (o : Op) : Env → T AV → St → Option Res :=
  Op.casesOn (motive := fun _ => Env → T AV → St → Option Res) o
    (fun x _ tm s => oMove tm s x)
    (fun x _ tm s => oMove tm s x)
    (fun c a b _ tm s => oPick tm s c a b)
    (fun t E _ s => oAlloc E s t)
    (fun t x _ tm s => oBox tm s t x)
    (fun t ps E tm s => oBuild E tm s t ps)
    (fun t n ps E tm s => oBuildSlice E tm s t n ps)
    (fun t m k x E tm s => oUpdate E tm s t m k x)
    (fun t a E tm s => oLoad E tm s t a)
    (fun t a x E tm s => oStore E tm s t a x)
    (fun _ _ _ _ => none)
    (fun _ _ _ _ => none)
    (fun x _ tm s => oNil tm s x)
    (fun op t x y _ E tm s => oBin E tm s op t x y)
    (fun op _ x _ tm s => oUn tm s op x)
    (fun a b x E tm s => oConv E tm s a b x)
    (fun _ _ _ _ _ => none)
    (fun t x E tm s => oIface E tm s t x)
    (fun fn a b _ tm s => oFunc tm s fn a b)
    (fun t r E tm s => oMap E tm s t r)
    (fun _ _ _ _ _ => none)
    (fun t l c E tm s => oMkSlice E tm s t l c)
    (fun t x l h m E tm s => oSlice E tm s t x l h m)
    (fun t x f E tm s => oFieldAddr E tm s t x f)
    (fun t x f E tm s => oField E tm s t x f)
    (fun t x i E tm s => oIndexAddr E tm s t x i)
    (fun t x i E tm s => oIndex E tm s t x i)
    (fun t x i ok E tm s => oLookup E tm s t x i ok)
    (fun t m k x E tm s => oUpdate E tm s t m k x)
    (fun _ _ _ _ _ _ => none)
    (fun _ _ _ _ _ _ _ => none)
    (fun t x E tm s => oRange E tm s t x)
    (fun it b _ tm s => oNext tm s it b)
    (fun it _ tm s => oEntry tm s it)
    (fun x _ t ok E tm s => oAssert E tm s x t ok)
    (fun x i _ tm s => oExtract tm s x i)
    (fun c E tm s => opCallA E tm s c)
    (fun _ _ _ _ => none)
    (fun c _ tm _ => oDefer tm c)
    (fun x _ tm _ => oPanic tm x)
    (fun _ _ _ _ _ => none)
    (fun _ _ _ _ _ _ => none)
    (fun _ _ _ _ _ => none)

def aop0 (E : Env) (tm : T AV) (s : St) (o : Op) : Option Res := aopT0 o E tm s

/-- What an oracle may tell of. -/
def oraC (c : Callee) : Bool := match c with | .builtin .len | .builtin .min => true | _ => false
def oraO (o : Op) : Bool := match o with
  | .binOp .. | .index .. | .slice .. | .convert .. | .load .. | .indexAddr .. | .lookup .. => true
  | .call c => oraC c.callee
  | _ => false
def oraT (o : Op) (E : Env) (tm : T AV) : Option AV := bif_ (oraO o) (ob (aevals tm o.operands.toList) (E.ora o)) none
/-- The oracle first, where there is one. -/
def asked (o : Op) (E : Env) (tm : T AV) (s : St) (r : Option Res) : Option Res :=
  Bool.rec (motive := fun _ => Option Res) r (Option.rec (motive := fun _ => Option Res) r (fun a => some (.val a s)) (oraT o E tm)) E.on
def aopT (o : Op) : Env → T AV → St → Option Res :=
  Op.casesOn (motive := fun _ => Env → T AV → St → Option Res) o
    (fun x _ tm s => oMove tm s x)
    (fun x _ tm s => oMove tm s x)
    (fun c a b _ tm s => oPick tm s c a b)
    (fun t E _ s => oAlloc E s t)
    (fun t x _ tm s => oBox tm s t x)
    (fun t ps E tm s => oBuild E tm s t ps)
    (fun t n ps E tm s => oBuildSlice E tm s t n ps)
    (fun t m k x E tm s => oUpdate E tm s t m k x)
    (fun t a E tm s => asked (.load t a) E tm s (oLoad E tm s t a))
    (fun t a x E tm s => oStore E tm s t a x)
    (fun _ _ _ _ => none)
    (fun _ _ _ _ => none)
    (fun x _ tm s => oNil tm s x)
    (fun op t x y z E tm s => asked (.binOp op t x y z) E tm s (oBin E tm s op t x y))
    (fun op _ x _ tm s => oUn tm s op x)
    (fun a b x E tm s => asked (.convert a b x) E tm s (oConv E tm s a b x))
    (fun _ _ _ _ _ => none)
    (fun t x E tm s => oIface E tm s t x)
    (fun fn a b _ tm s => oFunc tm s fn a b)
    (fun t r E tm s => oMap E tm s t r)
    (fun _ _ _ _ _ => none)
    (fun t l c E tm s => oMkSlice E tm s t l c)
    (fun t x l h m E tm s => asked (.slice t x l h m) E tm s (oSlice E tm s t x l h m))
    (fun t x f E tm s => oFieldAddr E tm s t x f)
    (fun t x f E tm s => oField E tm s t x f)
    (fun t x i E tm s => asked (.indexAddr t x i) E tm s (oIndexAddr E tm s t x i))
    (fun t x i E tm s => asked (.index t x i) E tm s (oIndex E tm s t x i))
    (fun t x i ok E tm s => asked (.lookup t x i ok) E tm s (oLookup E tm s t x i ok))
    (fun t m k x E tm s => oUpdate E tm s t m k x)
    (fun _ _ _ _ _ _ => none)
    (fun _ _ _ _ _ _ _ => none)
    (fun t x E tm s => oRange E tm s t x)
    (fun it b _ tm s => oNext tm s it b)
    (fun it _ tm s => oEntry tm s it)
    (fun x _ t ok E tm s => oAssert E tm s x t ok)
    (fun x i _ tm s => oExtract tm s x i)
    (fun c E tm s => asked (.call c) E tm s (opCallA E tm s c))
    (fun _ _ _ _ => none)
    (fun c _ tm _ => oDefer tm c)
    (fun x _ tm _ => oPanic tm x)
    (fun _ _ _ _ _ => none)
    (fun _ _ _ _ _ _ => none)
    (fun _ _ _ _ _ => none)

def aop (E : Env) (tm : T AV) (s : St) (o : Op) : Option Res := aopT o E tm s

def putT (tm : T AV) (nt : Nat) (d : Option Tmp) (v : AV) : Option (T AV) :=
  Option.rec (motive := fun _ => Option (T AV)) (some tm) (fun d => Bool.rec (motive := fun _ => Option (T AV)) none (some (tm.put d v)) (Nat.blt d nt)) d

/-- What a frame does with what it was waiting for. -/
def AFr.finish (fr : AFr) (v : AV) : Option AFr :=
  match fr with
  | ⟨tm, todo, ⟨fn, nt, ds, md, kd, ro⟩⟩ => match todo with
    | .reg ops (o :: rest) :: k => match putT tm nt o.dst v with
      | some tm => some ⟨tm, .reg ops rest :: k, ⟨fn, nt, ds, md, kd, ro⟩⟩
      | none => none
    | .dreg ops (.op o :: rest) :: k => match putT tm nt o.dst v with
      | some tm => some ⟨tm, .dreg ops rest :: k, ⟨fn, nt, ds, md, kd, ro⟩⟩
      | none => none
    | .inRangeFunc l :: k => some ⟨tm, .endRangeFunc l :: k, ⟨fn, nt, ds, md, kd, ro⟩⟩
    | .beginRound :: k => some ⟨tm, k, ⟨fn, nt, ds, md, kd, ro⟩⟩
    | _ => none

def putAll : List AV → Nat → T AV → T AV
  | [], _, t => t
  | v :: l, i, t => putAll l (i + 1) (t.put i v)

def enterA (E : Env) (f : FuncId) (args : List AV) (kind : CallKind) : Option AFr :=
  match E.fns.get f with
  | some i => match i.fn.body with
    | some c => match Nat.ble (max (len args) i.fn.ntmps) T.most with
      | true => some ⟨putAll args 0 .leaf, [.code c], ⟨f, max (len args) i.fn.ntmps, [], .run, kind, none⟩⟩
      | false => none
    | none => none
  | none => none

def exitA (id : Nat) : List AItem → Option (List AItem)
  | .inBlock i :: k => match Nat.beq i id with
    | true => some k
    | false => exitA id k
  | _ :: k => exitA id k
  | [] => none

def resultA (E : Env) (s : St) (tm : T AV) : ResultVar → Option AV
  | .tmp t => some (tget tm t)
  | .cell a t => match tget tm a with
    | .ptr i o => loadA E s t i o
    | _ => none

def resultsA (E : Env) (s : St) (tm : T AV) : List ResultVar → Option (List AV)
  | [] => some []
  | r :: l => match resultA E s tm r with
    | some v => match resultsA E s tm l with
      | some vs => some (v :: vs)
      | none => none
    | none => none

def retVal (E : Env) (s : St) (fr : AFr) : Option AV :=
  match E.fns.get fr.inf.fn with
  | some i => match resultsA E s fr.tmps i.fn.results.toList with
    | some [v] => some v
    | some vs => some (.tuple vs)
    | none => none
  | none => none

/-- No region of a drawn order is under way here. -/
def noD (todo : List AItem) : Bool := match todo with | .dreg _ _ :: _ => false | _ => true

/-- A value goes to the caller of a frame of this kind. -/
def doReturnA (kind : CallKind) (callers : List AFr) (v : AV) (s : St) : Option AM :=
  match callers with
  | [] => none
  | c :: cs => match kind with
    | .normal => match c.finish v with
      | some c' => some ⟨c', cs, s⟩
      | none => none
    | .deferred => match c with
      | ⟨tm, todo, ⟨fn, nt, ds, md, kd, ro⟩⟩ => match noD todo with
        | true => match md with
          | .panicking ((_, true) :: _) => some ⟨⟨tm, todo, ⟨fn, nt, ds, .returning, kd, ro⟩⟩, cs, s⟩
          | _ => some ⟨⟨tm, todo, ⟨fn, nt, ds, md, kd, ro⟩⟩, cs, s⟩
        | false => none
    | _ => none

def leaveA (fr : AFr) (callers : List AFr) (s : St) (jump : Option Code) : Option AM :=
  match fr with
  | ⟨tm, todo, ⟨fn, nt, ds, _, kd, ro⟩⟩ => match ro with
    | none => match jump with
      | none | some .ret => some ⟨⟨tm, todo, ⟨fn, nt, ds, .returning, kd, ro⟩⟩, callers, s⟩
      | _ => none
    | some l => match s.get l with
      | some (.loop _ _ fn tmps nt ps as bd df) =>
        doReturnA kd callers (.bool (match jump with | none => true | some _ => false)) (s.put l (.loop (match jump with | none => .ready | some _ => .done) jump fn tmps nt ps as bd df))
      | _ => none

def putParams : List Tmp → List AV → Nat → T AV → Option (T AV)
  | [], [], _, tm => some tm
  | p :: ps, v :: vs, nt, tm => match Nat.blt p nt with
    | true => putParams ps vs nt (tm.put p v)
    | false => none
  | _, _, _, _ => none

def wantedG (ops : Array Oper) (tm : T AV) (j : Nat) (want : Bool) : Option Bool :=
  match ops[j]? with
  | some oj => match oj.dst with
    | some d => match tget tm d with
      | .bool b => some (b == want)
      | .unk => none
      | .sym _ => none
      | .any => none
      | _ => some false
    | none => some false
  | none => some false

def wantedA (ops : Array Oper) (tm : T AV) (o : Oper) : Option Bool :=
  Option.rec (motive := fun _ => Option Bool) (some true) (fun g => wantedG ops tm g.1 g.2) o.guard

def applyA (E : Env) (fr : AFr) (callers : List AFr) (r : Res) (s0 : St) : Option AM :=
  match r with
  | .val v s => match fr.finish v with
    | some fr' => some ⟨fr', callers, s⟩
    | none => none
  | .enter f args s => match E.memo f args s with
    | some (v, s') => match fr.finish v with
      | some fr' => some ⟨fr', callers, s'⟩
      | none => none
    | none => match enterA E f args .normal with
      | some fr' => some ⟨fr', fr :: callers, s⟩
      | none => none
  | .round l args => match s0.get l with
    | some (.loop _ _ fn tmps nt ps as bd _) => match putParams ps args nt tmps with
      | some tm => some ⟨⟨tm, [.code as, .beginRound, .code bd], ⟨fn, nt, [], .run, .normal, some l⟩⟩, fr :: callers, s0⟩
      | none => none
    | _ => none
  | .defer d => match fr with
    | ⟨tm, todo, ⟨fn, nt, ds, md, kd, ro⟩⟩ => match ro with
      | some _ => none
      | none => match AFr.finish ⟨tm, todo, ⟨fn, nt, d :: ds, md, kd, ro⟩⟩ undefA with
        | some fr' => some ⟨fr', callers, s0⟩
        | none => none
  | .recover => match fr.inf.roundOf, fr.inf.kind, callers with
    | none, .deferred, ⟨tm, todo, ⟨fn, nt, ds, md, kd, ro⟩⟩ :: cs => match md with
      | .panicking ((v, false) :: older) => match fr.finish v with
        | some fr' => some ⟨fr', ⟨tm, todo, ⟨fn, nt, ds, .panicking ((v, true) :: older), kd, ro⟩⟩ :: cs, s0⟩
        | none => none
      | _ => match fr.finish .nilIface with
        | some fr' => some ⟨fr', callers, s0⟩
        | none => none
    | _, _, _ => none
  | .panic v => match fr with
    | ⟨tm, todo, ⟨fn, nt, ds, md, kd, ro⟩⟩ => match md with
      | .run => match noD todo with
        | true => some ⟨⟨tm, todo, ⟨fn, nt, ds, .panicking [(v, false)], kd, ro⟩⟩, callers, s0⟩
        | false => none
      | _ => none

/-- How far a region's operations go without a change of frames. -/
inductive RR where
  | done (tm : T AV) (s : St)
  | stop (it : AItem) (tm : T AV) (s : St) (r : Res)
  | stuck (o : Oper)

def regT (l : List Oper) : Env → Array Oper → Nat → T AV → St → RR :=
  List.rec (motive := fun _ => Env → Array Oper → Nat → T AV → St → RR)
    (fun _ _ _ tm s => .done tm s)
    (fun o rest ih E ops nt tm s => Option.rec (motive := fun _ => RR) (.stuck o)
      (fun w => Bool.rec (motive := fun _ => RR)
        (Option.rec (motive := fun _ => RR) (.stuck o) (fun tm' => ih E ops nt tm' s) (putT tm nt o.dst undefA))
        (Option.rec (motive := fun _ => RR) (.stuck o)
          (fun r => Res.rec (motive := fun _ => RR)
            (fun v s' => Option.rec (motive := fun _ => RR) (.stuck o) (fun tm' => ih E ops nt tm' s') (putT tm nt o.dst v))
            (fun f args s' => .stop (.reg ops (o :: rest)) tm s (.enter f args s')) (fun l args => .stop (.reg ops (o :: rest)) tm s (.round l args)) (fun d => .stop (.reg ops (o :: rest)) tm s (.defer d))
            (.stop (.reg ops (o :: rest)) tm s .recover) (fun v => .stop (.reg ops (o :: rest)) tm s (.panic v)) r)
          (aopT o.op E tm s))
        w)
      (wantedA ops tm o)) l

/-- One operation of a plan. -/
def dopT (o : Oper) (E : Env) (ops : Array Oper) (nt : Nat) (tm : T AV) (s : St) (go : T AV → St → RR) (stop : Res → RR) : RR :=
  match wantedA ops tm o with
  | none => .stuck o
  | some false => match putT tm nt o.dst undefA with
    | some tm' => go tm' s
    | none => .stuck o
  | some true => match aopT o.op E tm s with
    | none => .stuck o
    | some r => match r with
      | .val v s' => match putT tm nt o.dst v with
        | some tm' => go tm' s'
        | none => .stuck o
      | r => stop r

/-- Does it yield the same again? -/
def again (o : Oper) (E : Env) (ops : Array Oper) (tm : T AV) (s : St) : Bool :=
  match wantedA ops tm o with
  | none => false
  | some false => match o.dst with
    | none => true
    | some d => avEq undefA (tget tm d)
  | some true => match aopT o.op E tm s with
    | some (.val v _) => match o.dst with
      | none => true
      | some d => avEq v (tget tm d)
    | _ => false

def dregT : List PI → Env → Array Oper → Nat → T AV → St → RR
  | [], _, _, _, tm, s => .done tm s
  | .op o :: rest, E, ops, nt, tm, s => dopT o E ops nt tm s (fun tm s => dregT rest E ops nt tm s) (fun r => .stop (.dreg ops (.op o :: rest)) tm s r)
  | .chk o :: rest, E, ops, nt, tm, s => match again o E ops tm s with
    | true => dregT rest E ops nt tm s
    | false => .stuck o

def cReg (E : Env) (tm : T AV) (k : List AItem) (inf : FrInf) (callers : List AFr) (s : St) (ops : Array Oper) (l : List Oper) : Option AM :=
  match regT l E ops inf.nt tm s with
  | .done tm' s' => some ⟨⟨tm', k, inf⟩, callers, s'⟩
  | .stop it tm' s' r => applyA E ⟨tm', it :: k, inf⟩ callers r s'
  | .stuck _ => none

def cDReg (E : Env) (tm : T AV) (k : List AItem) (inf : FrInf) (callers : List AFr) (s : St) (ops : Array Oper) (l : List PI) : Option AM :=
  match dregT l E ops inf.nt tm s with
  | .done tm' s' => some ⟨⟨tm', k, inf⟩, callers, s'⟩
  | .stop it tm' s' r => applyA E ⟨tm', it :: k, inf⟩ callers r s'
  | .stuck _ => none

def cDraw (E : Env) (tm : T AV) (k : List AItem) (inf : FrInf) (callers : List AFr) (s : St) (ops : Array Oper) : Option AM :=
  match dplan E ops with
  | some pl => cDReg E tm k inf callers s ops pl
  | none => none

def cCond (tm : T AV) (k : List AItem) (inf : FrInf) (callers : List AFr) (s : St) (c : Operand) (t e : Code) : Option AM :=
  match aeval tm c with
  | some (.bool b) => some ⟨⟨tm, .code (Bool.rec (motive := fun _ => Code) e t b) :: k, inf⟩, callers, s⟩
  | _ => none

def cExit (tm : T AV) (k : List AItem) (inf : FrInf) (callers : List AFr) (s : St) (id : Nat) : Option AM :=
  match exitA id k with
  | some k' => some ⟨⟨tm, k', inf⟩, callers, s⟩
  | none => leaveA ⟨tm, .code (.exit id) :: k, inf⟩ callers s (some (.exit id))

/-- The block for the rounds' deferred calls: the outer loop's, or a new one. -/
def rfDefers (s : St) (ro : Option Nat) (defers : List ADef) : Option (Nat × St × List ADef) :=
  match ro with
  | some l => match s.get l with
    | some (.loop _ _ _ _ _ _ _ _ df) => some (df, s, defers)
    | _ => none
  | none => match s.new (.deferred true) with
    | some (r, s') => some (r, s', .collected r :: defers)
    | none => none

def cRangeFunc (E : Env) (tm : T AV) (k : List AItem) (inf : FrInf) (callers : List AFr) (s : St) (f : Operand) (ps : Array Tmp) (as bd : Code) : Option AM :=
  match aeval tm f with
  | some (.func f first cap) => match inf with
    | ⟨fn, nt, defers, md, kd, ro⟩ => match rfDefers s ro defers with
      | none => none
      | some (df, s1, ds) => match s1.new (.loop .ready none fn tm nt ps.toList as bd df) with
        | none => none
        | some (l, s2) => match callA E s2 f ((first ++ [.yield l]) ++ cap) with
          | some (.enter f args s3) => match enterA E f args .normal with
            | some fr' => some ⟨fr', ⟨tm, .inRangeFunc l :: k, ⟨fn, nt, ds, md, kd, ro⟩⟩ :: callers, s3⟩
            | none => none
          | _ => none
  | _ => none

def cCodeT (c : Code) : Env → T AV → List AItem → FrInf → List AFr → St → Option AM :=
  Code.casesOn (motive := fun _ => Env → T AV → List AItem → FrInf → List AFr → St → Option AM) c
    (fun _ tm k inf callers s => some ⟨⟨tm, k, inf⟩, callers, s⟩)
    (fun _ ops draw E tm k inf callers s => bif_ draw (cDraw E tm k inf callers s ops) (cReg E tm k inf callers s ops ops.toList))
    (fun a b _ tm k inf callers s => some ⟨⟨tm, .code a :: .code b :: k, inf⟩, callers, s⟩)
    (fun c t e _ tm k inf callers s => cCond tm k inf callers s c t e)
    (fun id b _ tm k inf callers s => some ⟨⟨tm, .code b :: .inBlock id :: k, inf⟩, callers, s⟩)
    (fun b _ tm k inf callers s => some ⟨⟨tm, .code b :: .inLoop b :: k, inf⟩, callers, s⟩)
    (fun f ps as bd E tm k inf callers s => cRangeFunc E tm k inf callers s f ps as bd)
    (fun id _ tm k inf callers s => cExit tm k inf callers s id)
    (fun _ _ _ _ _ _ _ => none)
    (fun _ _ tm k inf callers s => some ⟨⟨tm, k, inf⟩, callers, s⟩)
    (fun _ _ _ _ _ _ _ => none)
    (fun _ tm k inf callers s => leaveA ⟨tm, .code .ret :: k, inf⟩ callers s (some .ret))
    (fun _ _ _ _ _ _ _ => none)

def cEndRange (tm : T AV) (k : List AItem) (inf : FrInf) (callers : List AFr) (s : St) (l : Nat) : Option AM :=
  match s.get l with
  | some (.loop st pending fn tmps nt ps as bd df) => match st with
    | .busy => none
    | _ => some ⟨⟨tm, match pending with | some c => .code c :: k | none => k, inf⟩, callers, s.put l (.loop .exhausted pending fn tmps nt ps as bd df)⟩
  | _ => none

def cBegin (tm : T AV) (k : List AItem) (inf : FrInf) (callers : List AFr) (s : St) : Option AM :=
  match inf.roundOf with
  | some l => match s.get l with
    | some (.loop .ready pending fn tmps nt ps as bd df) => some ⟨⟨tm, k, inf⟩, callers, s.put l (.loop .busy pending fn tmps nt ps as bd df)⟩
    | _ => none
  | none => none

def runT (it : AItem) : Env → T AV → List AItem → FrInf → List AFr → St → Option AM :=
  AItem.casesOn (motive := fun _ => Env → T AV → List AItem → FrInf → List AFr → St → Option AM) it
    (fun c E tm k inf callers s => cCodeT c E tm k inf callers s)
    (fun _ _ tm k inf callers s => some ⟨⟨tm, k, inf⟩, callers, s⟩)
    (fun b _ tm k inf callers s => some ⟨⟨tm, .code b :: .inLoop b :: k, inf⟩, callers, s⟩)
    (fun ops l E tm k inf callers s => cReg E tm k inf callers s ops l)
    (fun ops l E tm k inf callers s => cDReg E tm k inf callers s ops l)
    (fun _ _ _ _ _ _ _ => none)
    (fun l _ tm k inf callers s => cEndRange tm k inf callers s l)
    (fun _ tm k inf callers s => cBegin tm k inf callers s)

def runA (E : Env) (tm : T AV) (todo : List AItem) (inf : FrInf) (callers : List AFr) (s : St) : Option AM :=
  match todo with
  | [] => leaveA ⟨tm, [], inf⟩ callers s none
  | it :: k => runT it E tm k inf callers s

def unwindA (E : Env) (tm : T AV) (todo : List AItem) (fn nt : Nat) (defers : List ADef) (mode : AMode) (kd : CallKind) (ro : Option Nat) (callers : List AFr) (s : St) : Option AM :=
  match defers with
  | d :: ds => match d with
    | .collected r => match noD todo with
      | true => match s.get r with
        | some (.deferred true) => some ⟨⟨tm, todo, ⟨fn, nt, ds, mode, kd, ro⟩⟩, callers, s.put r (.deferred false)⟩
        | _ => none
      | false => none
    | .call f args => match noD todo with
      | true => match callA E s f args with
        | some (.enter f args s) => match enterA E f args .deferred with
          | some fr' => some ⟨fr', ⟨tm, todo, ⟨fn, nt, ds, mode, kd, ro⟩⟩ :: callers, s⟩
          | none => none
        | _ => none
      | false => none
  | [] => match mode with
    | .panicking chain => match noD todo with
      | true => match E.fns.get fn with
        | none => none
        | some _ => match callers with
          | [] => none
          | ⟨tm', todo', ⟨fn', nt', ds', md', kd', ro'⟩⟩ :: cs => match noD todo' with
            | true => some ⟨⟨tm', todo', ⟨fn', nt', ds', .panicking (match md' with | .panicking old => chain ++ old | _ => chain), kd', ro'⟩⟩, cs, s⟩
            | false => none
      | false => none
    | _ => match noD todo with
      | true => match retVal E s ⟨tm, todo, ⟨fn, nt, [], mode, kd, ro⟩⟩ with
        | some v => doReturnA kd callers v s
        | none => none
      | false => none

/-- One step. -/
def astep (E : Env) (m : AM) : Option AM :=
  match m with
  | ⟨⟨tm, todo, ⟨fn, nt, defers, mode, kd, ro⟩⟩, callers, s⟩ => match mode with
    | .run => runA E tm todo ⟨fn, nt, defers, .run, kd, ro⟩ callers s
    | mode => unwindA E tm todo fn nt defers mode kd ro callers s

/-- Is the lowest frame about to return? -/
def doneA (m : AM) : Bool :=
  match m.callers with
  | [] => match m.fr.inf.mode with
    | .returning => match m.fr.inf.defers with
      | [] => true
      | _ => false
    | _ => false
  | _ => false

def run (E : Env) : Nat → AM → Option AM
  | 0, _ => none
  | n + 1, m => match doneA m with
    | true => some m
    | false => match astep E m with
      | some m' => run E n m'
      | none => none

/-- So many steps (for looking on). -/
def steps (E : Env) : Nat → AM → AM
  | 0, m => m
  | n + 1, m => match doneA m with
    | true => m
    | false => match astep E m with
      | some m' => steps E n m'
      | none => m

end
end Go.Eng
