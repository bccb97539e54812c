/- wire.Decode at any string: the runs on symbols. wire.Decode at any string: what the symbols stand for; the rows are so. wire.Decode at any string: its rows. rfc.Parse at the laws' texts; locale.Named. rfc.Parse at the laws' texts: the rules. locale.Named; wire.Decode at a preview's request. A range over a function whose iterator only reads what it has captured. No condition. -/
import Derived.Test.YtjhnpcnamclfbaaGreatDoorRb
import Derived.Test.YtjhnpcnamclfbaaGreatDoorZl
import Derived.Test.YtjhnpcnamclfbaaGreatDoorWb
import Derived.Test.YtjhnpcnamclfbaaGreatDoorMh
import Derived.Test.YtjhnpcnamclfbaaGreatDoorZa
/-! wire.Decode at any string: the runs on symbols. -/
namespace Go.Proofs.YtjhnpcnamclfbaaGreatDoor
open Go Go.Eng Go.RowKit
noncomputable section
set_option maxRecDepth 100000

def wdP : List Nat := [112, 97, 114, 115, 101]
def wdD : List Nat := [100, 101, 115, 99, 114, 105, 98, 101]
def wdVq : List Nat := [112, 114, 101, 118, 105, 101, 119]
def wdC : List Nat := [99, 104, 101, 99, 107]
def words4 : List (List Nat) := [wdP, wdD, wdVq, wdC]
def word (k : Nat) : List Nat := pick [] words4 k
/-- How many fields a kind has before the rest. -/
def many (k : Nat) : Nat := pick 0 [2, 1, 6, 0] k
/-- A field's kind: 0 a language, 1 a day, 2 a number. -/
def fkind (i : Nat) : Nat := pick 0 [0, 1, 1, 1, 2, 2] i
def zA : AV := .agg [.int .i64 0, .str [], .nilslice, .nilslice, .str []]
def formI : Img := ⟨.tuple [zA, .int .i64 1], []⟩
def okI (k : Nat) : Img := pick formI [⟨.tuple [.agg [.int .i64 0, .sym 11, .slice gN 0 1 1 1, .nilslice, .sym 22], .int .i64 0], [.cells [.sym 2] tDay true]⟩,
  ⟨.tuple [.agg [.int .i64 1, .sym 11, .nilslice, .nilslice, .sym 21], .int .i64 0], []⟩,
  ⟨.tuple [.agg [.int .i64 2, .sym 11, .slice gN 0 3 3 1, .slice (Nat.add gN 1) 0 2 2 1, .sym 26], .int .i64 0], [.cells [.sym 2, .sym 3, .sym 4] (Nat.add tailN tDay) true, .cells [.sym 5, .sym 6] (Nat.add tailN tInt) true]⟩,
  ⟨.tuple [.agg [.int .i64 3, .str [], .nilslice, .nilslice, .sym 20], .int .i64 0], []⟩] k

/-! The symbols: 0 the string, 8 its length, 9 its first word; 11 .. the fields, 20 .. what is left, 2 .. 6 days and numbers, 35, 36 the numbers' digits. -/
def cutK (i : Nat) : KR := ⟨fCut, [.sym (Nat.add 20 i), .str [32]], ⟨.tuple [.sym (Nat.add 11 i), .sym (Nat.add 21 i), .bool true], []⟩⟩
/-- A field's rows: e: is it one? -/
def fldK (c i : Nat) (e e1 : Bool) : List KR := match c with
  | 0 => []
  | 1 => [⟨fParse, [.sym (Nat.add 11 i)], ⟨.tuple [.sym (Nat.add 1 i), .bool e], []⟩⟩]
  | _ => [⟨fAtoi, [.sym (Nat.add 11 i)], ⟨.tuple [.sym (Nat.add 1 i), errA e1], []⟩⟩, ⟨fItoa, [.sym (Nat.add 1 i)], ⟨.sym (Nat.add 31 i), []⟩⟩]
def fldO (c i : Nat) (e e2 e3 : Bool) : List OR := match c with
  | 0 => [⟨12, [.sym 11, .str []], .bool e⟩]
  | 1 => []
  | _ => [⟨11, [.sym (Nat.add 31 i), .sym (Nat.add 11 i)], .bool e2⟩, ⟨16, [.sym (Nat.add 1 i), .int .i64 0], .bool e3⟩]
/-- The rows of the fields that are as they should be. -/
def goodK (j : Nat) : List KR := Nat.rec (motive := fun _ => List KR) [] (fun i l => (cutK i :: fldK (fkind i) i true true) ++ l) j
def goodO (j : Nat) : List OR := Nat.rec (motive := fun _ => List OR) [] (fun i l => fldO (fkind i) i true true true ++ l) j
def headO : List OR := [⟨20, [.sym 0], .sym 8⟩, ⟨15, [.sym 8, .int .i64 8192], .bool false⟩]
def headK (k : Nat) : KR := ⟨fCut, [.sym 0, .str [32]], ⟨.tuple [.str (word k), .sym 20, .bool true], []⟩⟩
def EWd (o : List OR) (k : List KR) : Env := Ee.askM 9 o [] (memoKH gl k)
def runD (o : List OR) (k : List KR) (ns : List Nat) (i : Img) : Bool := imgRunA (EWd (headO ++ o) k) gl fDecode [.sym 0] 3000 ns i
/-- As it should be. -/
def okN (k : Nat) : List Nat := pick [] [[1004], [], [1010, 1014], []] k
def four4 : List Nat := [0, 1, 2, 3]
theorem runDk : allB (fun k => runD (goodO (many k)) (headK k :: goodK (many k)) (okN k) (okI k)) four4 = true := by kernel_rfl
end
end Go.Proofs.YtjhnpcnamclfbaaGreatDoor

/-! wire.Decode at any string: what the symbols stand for; the rows are so. -/
namespace Go.Proofs.YtjhnpcnamclfbaaGreatDoor
open Go Go.Eng Go.RowKit
noncomputable section
set_option maxRecDepth 100000

/-! ### Contracts -/
/-! ### The symbols -/
section
variable {s name : List UInt8} {fs : List (List UInt8)} {t : List UInt8} {m : Int}
theorem tail_drop_len : ∀ (i : Nat) (fs : List (List UInt8)), (tailS (fs.drop i) t).length ≤ (tailS fs t).length
  | 0, _ => Nat.le_refl _
  | _ + 1, [] => Nat.le_refl _
  | i + 1, f :: fs => by
    have := tail_drop_len i fs
    show (tailS (fs.drop i) t).length ≤ (f ++ 32 :: tailS fs t).length
    rw [List.length_append, List.length_cons]; omega
end

/-- A string by its fields. -/
structure FldsOK (s : List UInt8) (fs : List (List UInt8)) (t : List UInt8) : Prop where
  hb : bare fs
  ht : 32 ∉ t
  hl : (tailS fs t).length ≤ 1000000
section
variable {s name : List UInt8} {fs : List (List UInt8)} {t : List UInt8} {m : Int} (hF : FldsOK s fs t)
include hF
end
end
end Go.Proofs.YtjhnpcnamclfbaaGreatDoor

/-! wire.Decode at any string: its rows. -/
namespace Go.Proofs.YtjhnpcnamclfbaaGreatDoor
open Go Go.Eng Go.RowKit
noncomputable section
set_option maxRecDepth 100000

section
variable {s name : List UInt8} {fs : List (List UInt8)} {t : List UInt8} {m : Int}
end
end
end Go.Proofs.YtjhnpcnamclfbaaGreatDoor

/-! rfc.Parse at the laws' texts; locale.Named. -/
namespace Go.Proofs.YtjhnpcnamclfbaaGreatDoor
open Go Go.Eng Go.RowKit
noncomputable section
set_option maxRecDepth 100000
abbrev fRfc : Nat := 77
abbrev fNamed : Nat := 51
abbrev tNthZ : Nat := 190
abbrev tIntZ : Nat := 3
def EPz : Env := E0.askM 9 [] [] (memoKH gl [])
theorem kr_rfc {σ : Nat → Value} {text : List Nat} {n : Nat} {ns : List Nat} {i : Img} (run : imgRunA EPz gl fRfc [.str text] n ns i = true) : KRow Tryz.prog gl σ fRfc [.str text] i :=
  KRow.of (E := EPz) (EnvS.askM envOK (fun r hr => by cases hr) (fun r hr => by cases hr)) (memoKH_ok (E := EPz) rfl fun r hr => by cases hr) glOK run
def ruleI (f : Int) (sd sw sp : AV) (bs : List Blk) : Img := ⟨.tuple [.agg [.int .i64 f, .int .i64 1, .int .i64 0, .int .i64 0, .nilslice, sd, sw, sp], .int .i64 0], bs⟩
/-- At this text there is this rule. -/
def ParseTo (text : List UInt8) (r : RuleD) : Prop := ∀ w, Vars gl w → Calls Tryz.prog fRfc #[strV text] w fun e w' => ∃ v, e = .returned (.tuple #[v, .int .i64 0]) ∧ RuleV w' v r ∧ Below w.heap.size w w'
theorem parse_of {text : List UInt8} {n : Nat} {ns : List Nat} {f : Int} {sd sw sp sd' sw' sp' : AV} {bs : List Blk} {s' : St} (run : imgRunA EPz gl fRfc [.str (nats text)] n ns (ruleI f sd sw sp bs) = true)
    (hp : place (ruleI f sd sw sp bs) (stOf gl) = some (.tuple [.agg [.int .i64 f, .int .i64 1, .int .i64 0, .int .i64 0, .nilslice, sd', sw', sp'], .int .i64 0], s')) {days pos : List Int} {wdays : List (Int × Int)}
    (h : ∀ (B : Base) (ρ : Rho) (σ : Nat → Value) (w : World) (xd xw xp : Value), R B ρ σ s' w → VR ρ σ sd' xd → VR ρ σ sw' xw → VR ρ σ sp' xp → IntsAt w xd days ∧ NthsAt w xw wdays ∧ IntsAt w xp pos) : ParseTo text ⟨f, 1, 0, 0, [], days, wdays, pos⟩ := by
  intro w hw
  refine (img_calls (σ := fun _ => .nilIface) (V := fun _ => True) (fun m => kr_rfc run) hp hw (Hold.all (fun _ => True.intro) _ _) (va := #[strV text]) (fun m ρ => ⟨_, _, rfl, ⟨_, rfl, rfl⟩, rfl⟩)).mono ?_
  rintro e w2 ⟨u, m, ρ', rfl, hB, hu, hR⟩
  obtain ⟨us, rfl, v, r1, e1, ⟨vs, rfl, y0, t0, p0, k0, y1, t1, p1, k1, y2, t2, p2, k2, y3, t3, p3, k3, y4, t4, p4, k4, y5, t5, p5, k5, y6, t6, p6, k6, y7, t7, p7, k7, p8⟩, v2, r2, e2, k8, e3⟩ := hu
  have k0 : y0 = .int .i64 f := k0
  have k1 : y1 = .int .i64 1 := k1
  have k2 : y2 = .int .i64 0 := k2
  have k3 : y3 = .int .i64 0 := k3
  have k4 : y4 = .slice none 0 0 := k4
  have k8 : v2 = .int .i64 0 := k8
  have p8 : t7 = [] := p8
  have e3 : r2 = [] := e3
  subst k0 k1 k2 k3 k4 k8 p8 e3
  obtain ⟨h1, h2, h3⟩ := h _ _ _ _ _ _ _ hR k5 k6 k7
  have hvs : vs = #[.int .i64 f, .int .i64 1, .int .i64 0, .int .i64 0, .slice none 0 0, y5, y6, y7] := Array.ext' (by rw [p0, p1, p2, p3, p4, p5, p6, p7])
  have hus : us = #[.agg vs, .int .i64 0] := Array.ext' (by rw [e1, e2])
  subst hus hvs
  exact ⟨_, rfl, ⟨_, _, _, _, rfl, .inl ⟨_, _, rfl, rfl⟩, h1, h2, h3⟩, hB⟩
theorem ints_nil {ρ : Rho} {σ : Nat → Value} {w : World} {x : Value} (h : VR ρ σ .nilslice x) : IntsAt w x [] := .inl ⟨_, _, h, rfl⟩
theorem nths_nil {ρ : Rho} {σ : Nat → Value} {w : World} {x : Value} (h : VR ρ σ .nilslice x) : NthsAt w x [] := .inl ⟨_, _, h, rfl⟩
def placed (i : Img) : AV × St := match place i (stOf gl) with | some x => x | none => (.nilptr, stOf gl)
theorem placed_eq {i : Img} (h : (match place i (stOf gl) with | some _ => true | none => false) = true) : place i (stOf gl) = some (placed i) := by
  unfold placed
  cases hp : place i (stOf gl) with
  | none => rw [hp] at h; cases h
  | some x => rfl

/-! ### The texts -/
def wname (d : Nat) : List Nat := pick [] [[77, 79], [84, 85], [87, 69], [84, 72], [70, 82], [83, 65], [83, 85]] d
def tx1 (d : Nat) : List Nat := [70, 82, 69, 81, 61, 77, 79, 78, 84, 72, 76, 89, 59, 66, 89, 68, 65, 89, 61, 45, 49] ++ wname d
def dgs (k : Nat) : List Nat := bif_ (Nat.blt k 10) [Nat.add 48 k] [Nat.add 48 (Nat.div k 10), Nat.add 48 (Nat.mod k 10)]
def tx5 (k : Nat) : List Nat := [70, 82, 69, 81, 61, 77, 79, 78, 84, 72, 76, 89, 59, 66, 89, 77, 79, 78, 84, 72, 68, 65, 89, 61, 45] ++ dgs k
def im1 (d : Nat) : Img := ruleI 2 .nilslice (.slice gN 0 1 1 2) .nilslice [.cells [.int .i64 (-1), .int .i64 (Int.ofNat d)] tNthZ true]
def im5 (k : Nat) : Img := ruleI 2 (.slice gN 0 1 1 1) .nilslice .nilslice [.cells [.int .i64 (-(Int.ofNat k))] tIntZ true]
theorem run1 : allB (fun d => imgRunA EPz gl fRfc [.str (tx1 d)] 3000 [1010] (im1 d)) w7 = true := by kernel_rfl
theorem run5a : allB (fun k => imgRunA EPz gl fRfc [.str (tx5 k)] 3000 [1008] (im5 k)) [1, 2, 3, 4, 5, 6, 7, 8, 9, 10, 11, 12, 13, 14, 15, 16] = true := by kernel_rfl
theorem run5b : allB (fun k => imgRunA EPz gl fRfc [.str (tx5 k)] 3000 [1008] (im5 k)) [17, 18, 19, 20, 21, 22, 23, 24, 25, 26, 27, 28, 29, 30, 31] = true := by kernel_rfl
end
end Go.Proofs.YtjhnpcnamclfbaaGreatDoor

/-! rfc.Parse at the laws' texts: the rules. -/
namespace Go.Proofs.YtjhnpcnamclfbaaGreatDoor
open Go Go.Eng Go.RowKit
noncomputable section
set_option maxRecDepth 100000
theorem isZ_int (σ : Nat → Value) (z : Int) : isZ σ z (.int .i64 z) := .inl rfl
def k31 : List Nat := [1, 2, 3, 4, 5, 6, 7, 8, 9, 10, 11, 12, 13, 14, 15, 16, 17, 18, 19, 20, 21, 22, 23, 24, 25, 26, 27, 28, 29, 30, 31]
theorem okTx5 : allB (fun k => allB (fun c => Nat.blt c 256 && !Nat.beq c 32) (tx5 k)) k31 = true := by kernel_rfl
theorem mem_k31 {k : Nat} (h1 : 1 ≤ k) (h2 : k ≤ 31) : k ∈ k31 := by
  have : ∀ k, k < 32 → 1 ≤ k → k ∈ k31 := by decide
  exact this k (by omega) h1
theorem run5 {k : Nat} (h1 : 1 ≤ k) (h2 : k ≤ 31) : imgRunA EPz gl fRfc [.str (tx5 k)] 3000 [1008] (im5 k) = true := by
  rcases Nat.lt_or_ge k 17 with h | h
  · refine allB_spec run5a k ?_
    have : ∀ k, k < 17 → 1 ≤ k → k ∈ [1, 2, 3, 4, 5, 6, 7, 8, 9, 10, 11, 12, 13, 14, 15, 16] := by decide
    exact this k h h1
  · refine allB_spec run5b k ?_
    have : ∀ k, k < 32 → 17 ≤ k → k ∈ [17, 18, 19, 20, 21, 22, 23, 24, 25, 26, 27, 28, 29, 30, 31] := by decide
    exact this k (by omega) h
theorem pt5 {k : Nat} (h1 : 1 ≤ k) (h2 : k ≤ 31) : ParseTo (toB (tx5 k)) (rMd k) := by
  refine parse_of (n := 3000) (ns := [1008]) (f := 2) (sd := .slice gN 0 1 1 1) (sw := .nilslice) (sp := .nilslice) (sd' := .slice gN 0 1 1 1) (sw' := .nilslice) (sp' := .nilslice) (s' := (placed (im5 k)).2) (by rw [nats_toB' (allB_spec okTx5 k (mem_k31 h1 h2))]; exact run5 h1 h2) (by kernel_rfl) ?_
  intro B ρ σ w xd xw xp hR h1 h2 h3
  refine ⟨r_ints hR h1 (cs := [.int .i64 (-(Int.ofNat k))]) (el := tIntZ) (wr := true) (by kernel_rfl) rfl fun j z hj => ?_, nths_nil h2, ints_nil h3⟩
  match j, hj with
  | 0, hj => cases hj; exact ⟨_, rfl, isZ_int _ _⟩

/-! ### locale.Named -/
def ENm : Env := E0.askM 9 [] [] (memoOr (memoI gl tabs4) (memoKH gl []))
def locs4 : List (List Nat) := [[101, 110], [100, 101], [102, 114], [112, 108]]
theorem runNm : allB (fun r => imgRunA ENm gl fNamed [.str (pick [] locs4 r)] 1000 (upFrom (Nat.add 1001 (Nat.mul 45 r)) 43) (tabI r)) k4 = true := by kernel_rfl
end
end Go.Proofs.YtjhnpcnamclfbaaGreatDoor

/-! locale.Named; wire.Decode at a preview's request. -/
namespace Go.Proofs.YtjhnpcnamclfbaaGreatDoor
open Go Go.Eng Go.RowKit
noncomputable section
set_option maxRecDepth 100000
theorem lo_locs {i : Nat} (h : i < 4) : nats (lo i) = pick [] locs4 i := by
  match i, h with
  | 0, _ | 1, _ | 2, _ | 3, _ => rfl
theorem kr_named {σ : Nat → Value} {i : Nat} (h : i < 4) : KRow Tryz.prog gl σ fNamed [.str (pick [] locs4 i)] (tabI i) :=
  KRow.of (E := ENm) (EnvS.askM envOK (fun r hr => by cases hr) (fun r hr => by cases hr)) (MemoOK.or (E := ENm) (tabs4_ok σ (E := ENm) rfl) (memoKH_ok (E := ENm) rfl fun r hr => by cases hr)) glOK (allB_spec runNm i (mem_k4 h))
/-- A language's table by its name. -/
theorem named_calls {w : World} (hw : Vars gl w) {i : Nat} (h4 : i < 4) : Calls Tryz.prog fNamed #[strV (lo i)] w (fun e w2 => ∃ u, e = .returned u ∧ u.oneCell' = true ∧ Below w.heap.size w w2 ∧
    ∃ ρt, HasX (tabX i) ρt w2 ∧ PtrX i ρt u ∧ ∀ j L, ρt j = some L → w.heap.size ≤ L.blk ∧ L.blk < w2.heap.size) := by
  obtain ⟨m, hm⟩ := hw
  obtain ⟨ρ, hR⟩ := hm (withM (fun _ => .nilIface) m) (withM_kM _ _)
  have hpl := allB_spec place_tab i (mem_k4 h4)
  have hob := allB_spec tab_okB i (mem_k4 h4)
  rw [Bool.and_eq_true] at hob
  cases hp : place (tabI i) (stOf gl) with
  | none => rw [hp] at hpl; cases hpl
  | some x =>
    obtain ⟨v, s'⟩ := x
    refine (kr_named (σ := withM (fun _ => .nilIface) m) h4 (.at w.heap.size) ρ (stOf gl) w #[strV (lo i)] (Hold.all (fun _ => True.intro) _ _) hR gl_has ⟨_, _, rfl, ⟨_, rfl, lo_locs h4⟩, rfl⟩ v s' hp).mono ?_
    rintro e w2 ⟨u, ρ', rfl, _, hu, hR2, hK⟩
    obtain ⟨h1, h2, h3⟩ := hR2.toX hp hob.1
    have hlen : 0 < (tabI i).bs.length := by
      have := Nat.le_of_ble_eq_true hob.2
      rw [len_eq] at this; exact this
    obtain ⟨L, hL, e⟩ := h3 0 u (tab_ptr _ h4) hu hlen
    exact ⟨u, rfl, by rw [e]; rfl, hK.at, rhoT (tabI i).bs.length ρ', h1, ⟨L, hL, e, isX_iff.2 ⟨Nat.le_refl _, by rw [tabX_len]; omega⟩⟩, h2⟩

/-! ### A preview's request -/
structure Req where
  loc : List UInt8
  d1 : Nat
  d2 : Nat
  d3 : Nat
  a : Nat
  b : Nat
  t : List UInt8
def dtx (n : Nat) : List UInt8 := dayT (dateN n).1 (dateN n).2.1 (dateN n).2.2
namespace Req
variable (q : Req)
def fs : List (List UInt8) := [q.loc, dtx q.d1, dtx q.d2, dtx q.d3, Lib.decDigits q.a, Lib.decDigits q.b]
def s : List UInt8 := tailS (wd 2 :: q.fs) q.t
def sg : Nat → Value
  | 0 => strV q.s
  | 2 => .int .i64 (q.d1 : Int)
  | 3 => .int .i64 (q.d2 : Int)
  | 4 => .int .i64 (q.d3 : Int)
  | 5 => .int .i64 (q.a : Int)
  | 6 => .int .i64 (q.b : Int)
  | 8 => .int .i64 (q.s.length : Nat)
  | 11 => strV q.loc
  | 12 => strV (dtx q.d1)
  | 13 => strV (dtx q.d2)
  | 14 => strV (dtx q.d3)
  | 15 => strV (Lib.decDigits q.a)
  | 16 => strV (Lib.decDigits q.b)
  | 20 => strV (tailS q.fs q.t)
  | 21 => strV (tailS (q.fs.drop 1) q.t)
  | 22 => strV (tailS (q.fs.drop 2) q.t)
  | 23 => strV (tailS (q.fs.drop 3) q.t)
  | 24 => strV (tailS (q.fs.drop 4) q.t)
  | 25 => strV (tailS (q.fs.drop 5) q.t)
  | 26 => strV q.t
  | 35 => strV (Lib.decDigits q.a)
  | 36 => strV (Lib.decDigits q.b)
  | _ => .nilIface
structure OK : Prop where
  hl : 32 ∉ q.loc
  hne : q.loc ≠ []
  hl2 : q.loc.length ≤ 100
  h1 : 1 ≤ q.d1 ∧ q.d1 ≤ lastN
  h2 : 1 ≤ q.d2 ∧ q.d2 ≤ lastN
  h3 : 1 ≤ q.d3 ∧ q.d3 ≤ lastN
  ha : q.a < 4294967296
  hb : q.b < 4294967296
  ht : q.t.length ≤ 4000
variable {q} (h : q.OK)
theorem dtx_ok {n : Nat} (h : 1 ≤ n ∧ n ≤ lastN) : 32 ∉ dtx n ∧ (dtx n).length ≤ 10 := dayT_ok (dateN_dated h.1 h.2)
include h
theorem f_ok : ∀ f ∈ q.fs, 32 ∉ f ∧ f.length ≤ 100 := by
  intro f hf
  simp only [fs, List.mem_cons, List.mem_nil_iff, or_false] at hf
  rcases hf with rfl | rfl | rfl | rfl | rfl | rfl
  · exact ⟨h.hl, h.hl2⟩
  · have := dtx_ok h.h1; exact ⟨this.1, by omega⟩
  · have := dtx_ok h.h2; exact ⟨this.1, by omega⟩
  · have := dtx_ok h.h3; exact ⟨this.1, by omega⟩
  · have := dec_ok h.ha; exact ⟨this.1, by omega⟩
  · have := dec_ok h.hb; exact ⟨this.1, by omega⟩
theorem fs_len : (tailS q.fs q.t).length ≤ 4606 := by
  have := tailS_len q.fs q.t 100 fun f hf => (f_ok h f hf).2
  have h2 := h.ht
  have : q.fs.length = 6 := rfl
  omega
theorem s_len : q.s.length ≤ 8192 := by
  show (wd 2 ++ 32 :: tailS q.fs q.t).length ≤ 8192
  have := fs_len h
  have h3 := (wd_ok (k := 2) (by omega)).2
  rw [List.length_append, List.length_cons]
  omega
theorem drop_len (i : Nat) : (tailS (q.fs.drop i) q.t).length ≤ 4606 := Nat.le_trans (tail_drop_len i q.fs) (fs_len h)
theorem kr_all (m : Int) : ∀ r ∈ headK 2 :: goodK (many 2), KRow Tryz.prog gl (withM q.sg m) r.f r.args r.img errV := by
  have cutR : ∀ {i j k : Nat} {f : List UInt8} {r : List UInt8}, withM q.sg m i = strV (f ++ 32 :: r) → withM q.sg m j = strV f → withM q.sg m k = strV r → 32 ∉ f → (f ++ 32 :: r).length ≤ 4606 → KRow Tryz.prog gl (withM q.sg m) fCut [.sym i, .str [32]] ⟨.tuple [.sym j, .sym k, .bool true], []⟩ errV := fun {i j k f r} e1 e2 e3 hf hl =>
    KRow.ofC (withM_kM _ _) rfl rfl (va := #[strV (f ++ 32 :: r), strV [32]]) ⟨_, _, rfl, ⟨e1.symm, rfl⟩, _, _, rfl, ⟨_, rfl, rfl⟩, rfl⟩ (.inr ⟨_, rfl, rfl⟩) (u := .tuple #[strV f, strV r, .bool true])
      ⟨_, rfl, _, _, rfl, ⟨e2.symm, rfl⟩, _, _, rfl, ⟨e3.symm, rfl⟩, _, _, rfl, rfl, rfl⟩ (CG.e (c_cut hf (by omega)))
  have dayR : ∀ {i j n : Nat}, withM q.sg m i = strV (dtx n) → withM q.sg m j = .int .i64 (n : Int) → 1 ≤ n ∧ n ≤ lastN → KRow Tryz.prog gl (withM q.sg m) fParse [.sym i] ⟨.tuple [.sym j, .bool true], []⟩ errV := fun {i j n} e1 e2 hn =>
    KRow.ofC (withM_kM _ _) rfl rfl (va := #[strV (dtx n)]) ⟨_, _, rfl, ⟨e1.symm, rfl⟩, rfl⟩ (.inr ⟨_, rfl, rfl⟩) (u := .tuple #[.int .i64 (n : Int), .bool true]) ⟨_, rfl, _, _, rfl, ⟨e2.symm, rfl⟩, _, _, rfl, rfl, rfl⟩ (CG.e (c_parse (dateN_dated hn.1 hn.2)).g)
  have atoR : ∀ {i j n : Nat}, withM q.sg m i = strV (Lib.decDigits n) → withM q.sg m j = .int .i64 (n : Int) → n < 4294967296 → KRow Tryz.prog gl (withM q.sg m) fAtoi [.sym i] ⟨.tuple [.sym j, errA true], []⟩ errV := fun {i j n} e1 e2 hn => by
    have a1 := (num_dec n (by omega)).1
    have a2 : atoiB (Lib.decDigits n) = true := by unfold atoiB; rw [atoi_dec (by omega)]
    have := kr_atoi (σ := withM q.sg m) (withM_kM _ _) (a := .sym i) (b := .sym j) (l := Lib.decDigits n) rfl rfl (by have := (dec_ok hn).2; omega) ⟨e1.symm, rfl⟩ rfl ⟨by rw [a1]; exact e2.symm, rfl⟩
    rwa [a2] at this
  have itoR : ∀ {i j n : Nat}, withM q.sg m i = strV (Lib.decDigits n) → withM q.sg m j = .int .i64 (n : Int) → n < 4294967296 → KRow Tryz.prog gl (withM q.sg m) fItoa [.sym j] ⟨.sym i, []⟩ errV := fun {i j n} e1 e2 hn =>
    KRow.ofC (withM_kM _ _) rfl rfl (va := #[.int .i64 (n : Int)]) ⟨_, _, rfl, ⟨e2.symm, rfl⟩, rfl⟩ (.inl rfl) (u := strV (Lib.decDigits n)) ⟨e1.symm, rfl⟩ (CG.e (c_itoa n (by omega)).g)
  have l := drop_len h
  intro r hr
  have el : headK 2 :: goodK (many 2) = [headK 2, cutK 5, ⟨fAtoi, [.sym 16], ⟨.tuple [.sym 6, errA true], []⟩⟩, ⟨fItoa, [.sym 6], ⟨.sym 36, []⟩⟩, cutK 4, ⟨fAtoi, [.sym 15], ⟨.tuple [.sym 5, errA true], []⟩⟩, ⟨fItoa, [.sym 5], ⟨.sym 35, []⟩⟩,
    cutK 3, ⟨fParse, [.sym 14], ⟨.tuple [.sym 4, .bool true], []⟩⟩, cutK 2, ⟨fParse, [.sym 13], ⟨.tuple [.sym 3, .bool true], []⟩⟩, cutK 1, ⟨fParse, [.sym 12], ⟨.tuple [.sym 2, .bool true], []⟩⟩, cutK 0] := rfl
  rw [el] at hr
  simp only [List.mem_cons, List.mem_nil_iff, or_false] at hr
  rcases hr with rfl | rfl | rfl | rfl | rfl | rfl | rfl | rfl | rfl | rfl | rfl | rfl | rfl | rfl
  · exact KRow.ofC (withM_kM _ _) rfl rfl (va := #[strV (wd 2 ++ 32 :: tailS q.fs q.t), strV [32]]) ⟨_, _, rfl, ⟨rfl, rfl⟩, _, _, rfl, ⟨_, rfl, rfl⟩, rfl⟩ (.inr ⟨_, rfl, rfl⟩) (u := .tuple #[strV (wd 2), strV (tailS q.fs q.t), .bool true])
      ⟨_, rfl, _, _, rfl, ⟨_, rfl, rfl⟩, _, _, rfl, ⟨rfl, rfl⟩, _, _, rfl, rfl, rfl⟩ (CG.e (c_cut (wd_ok (k := 2) (by omega)).1 (by have := s_len h; show q.s.length < _; omega)))
  · exact cutR (i := 25) (j := 16) (k := 26) (f := Lib.decDigits q.b) (r := q.t) rfl rfl rfl (dec_ok h.hb).1 (l 5)
  · exact atoR (n := q.b) rfl rfl h.hb
  · exact itoR (n := q.b) rfl rfl h.hb
  · exact cutR (i := 24) (j := 15) (k := 25) (f := Lib.decDigits q.a) (r := tailS (q.fs.drop 5) q.t) rfl rfl rfl (dec_ok h.ha).1 (l 4)
  · exact atoR (n := q.a) rfl rfl h.ha
  · exact itoR (n := q.a) rfl rfl h.ha
  · exact cutR (i := 23) (j := 14) (k := 24) (f := dtx q.d3) (r := tailS (q.fs.drop 4) q.t) rfl rfl rfl (dtx_ok h.h3).1 (l 3)
  · exact dayR (n := q.d3) rfl rfl h.h3
  · exact cutR (i := 22) (j := 13) (k := 23) (f := dtx q.d2) (r := tailS (q.fs.drop 3) q.t) rfl rfl rfl (dtx_ok h.h2).1 (l 2)
  · exact dayR (n := q.d2) rfl rfl h.h2
  · exact cutR (i := 21) (j := 12) (k := 22) (f := dtx q.d1) (r := tailS (q.fs.drop 2) q.t) rfl rfl rfl (dtx_ok h.h1).1 (l 1)
  · exact dayR (n := q.d1) rfl rfl h.h1
  · exact cutR (i := 20) (j := 11) (k := 21) (f := q.loc) (r := tailS (q.fs.drop 1) q.t) rfl rfl rfl h.hl (l 0)
theorem or_all {E : Env} (ht : E.ty = E0.ty) (m : Int) : ∀ r ∈ headO ++ goodO (many 2), RowOK E 9 (withM q.sg m) r := by
  intro r hr
  have el : headO ++ goodO (many 2) = [⟨20, [.sym 0], .sym 8⟩, ⟨15, [.sym 8, .int .i64 8192], .bool false⟩, ⟨11, [.sym 36, .sym 16], .bool true⟩, ⟨16, [.sym 6, .int .i64 0], .bool true⟩, ⟨11, [.sym 35, .sym 15], .bool true⟩, ⟨16, [.sym 5, .int .i64 0], .bool true⟩, ⟨12, [.sym 11, .str []], .bool true⟩] := rfl
  rw [el] at hr
  have hs := s_len h
  simp only [List.mem_cons, List.mem_nil_iff, or_false] at hr
  rcases hr with rfl | rfl | rfl | rfl | rfl | rfl | rfl
  · exact RowOK.len (typ9 ht) (x := nats q.s) rfl (by rw [nats_len]; rfl)
  · exact RowOK.cmp .i64 (x := ((q.s.length : Nat) : Int)) (y := 8192) rfl rfl (.inr (.inr (.inr (.inr (.inl ⟨rfl, by symm; rw [decide_eq_false_iff_not]; omega⟩)))))
  · exact RowOK.seq (p := nats (Lib.decDigits q.b)) (q := nats (Lib.decDigits q.b)) rfl rfl (.inl ⟨rfl, by simp⟩)
  · exact RowOK.cmp .i64 (x := (q.b : Int)) (y := 0) rfl rfl (.inr (.inr (.inr (.inr (.inr ⟨rfl, by symm; rw [decide_eq_true_eq]; omega⟩)))))
  · exact RowOK.seq (p := nats (Lib.decDigits q.a)) (q := nats (Lib.decDigits q.a)) rfl rfl (.inl ⟨rfl, by simp⟩)
  · exact RowOK.cmp .i64 (x := (q.a : Int)) (y := 0) rfl rfl (.inr (.inr (.inr (.inr (.inr ⟨rfl, by symm; rw [decide_eq_true_eq]; omega⟩)))))
  · refine RowOK.seq (p := nats q.loc) (q := []) rfl rfl (.inr ⟨rfl, ?_⟩)
    have : nats q.loc ≠ [] := fun e => h.hne (List.map_eq_nil_iff.1 e)
    simp [this]
theorem kr_dec (m : Int) : KRow Tryz.prog gl (withM q.sg m) fDecode [.sym 0] (okI 2) errV :=
  KRow.of (E := EWd (headO ++ goodO (many 2)) (headK 2 :: goodK (many 2))) (EnvS.askM envEe (fun r hr => or_all h (by rfl) m r hr) (fun r hr => by cases hr)) (memoKH_ok (E := EWd (headO ++ goodO (many 2)) (headK 2 :: goodK (many 2))) rfl (kr_all h m)) glOK (allB_spec runDk 2 (by decide))
theorem decode_calls {w : World} (hw : Vars gl w) (he : errV w) : Calls Tryz.prog fDecode #[strV q.s] w fun e w' => ∃ sd sn, e = .returned (.tuple #[.agg #[.int .i64 2, strV q.loc, sd, sn, strV q.t], .int .i64 0]) ∧ IntsAt w' sd [(q.d1 : Int), (q.d2 : Int), (q.d3 : Int)] ∧ IntsAt w' sn [(q.a : Int), (q.b : Int)] ∧ Below w.heap.size w w' := by
  refine (img_calls (σ := q.sg) (V := errV) (v := (placed (okI 2)).1) (s' := (placed (okI 2)).2) (fun m => kr_dec h m) (placed_eq (by kernel_rfl)) hw (errV_hold w he) (va := #[strV q.s]) (fun m ρ => ⟨_, _, rfl, ⟨rfl, rfl⟩, rfl⟩)).mono ?_
  rintro e w2 ⟨u, m, ρ', rfl, hB, hu, hR⟩
  have ev : (placed (okI 2)).1 = .tuple [.agg [.int .i64 2, .sym 11, .slice gN 0 3 3 1, .slice (Nat.add gN 1) 0 2 2 1, .sym 26], .int .i64 0] := by kernel_rfl
  rw [ev] at hu
  obtain ⟨us, rfl, v, r1, e1, ⟨vs, rfl, y0, t0, p0, k0, y1, t1, p1, k1, y2, t2, p2, k2, y3, t3, p3, k3, y4, t4, p4, k4, p5⟩, v2, r2, e2, k8, e3⟩ := hu
  have k0 : y0 = .int .i64 2 := k0
  have k1 : y1 = strV q.loc := k1.1
  have k4 : y4 = strV q.t := k4.1
  have k8 : v2 = .int .i64 0 := k8
  have p5 : t4 = [] := p5
  have e3 : r2 = [] := e3
  subst k0 k1 k4 k8 p5 e3
  have hvs : vs = #[.int .i64 2, strV q.loc, y2, y3, strV q.t] := Array.ext' (by rw [p0, p1, p2, p3, p4])
  have hus : us = #[.agg vs, .int .i64 0] := Array.ext' (by rw [e1, e2])
  subst hus hvs
  refine ⟨y2, y3, rfl, r_ints hR k2 (cs := [.sym 2, .sym 3, .sym 4]) (el := Nat.add tailN tDay) (wr := true) (by kernel_rfl) rfl fun j z hj => ?_, r_ints hR k3 (cs := [.sym 5, .sym 6]) (el := Nat.add tailN tInt) (wr := true) (by kernel_rfl) rfl fun j z hj => ?_, hB⟩
  · match j, hj with
    | 0, hj => cases hj; exact ⟨_, rfl, .inr ⟨2, rfl, rfl⟩⟩
    | 1, hj => cases hj; exact ⟨_, rfl, .inr ⟨3, rfl, rfl⟩⟩
    | 2, hj => cases hj; exact ⟨_, rfl, .inr ⟨4, rfl, rfl⟩⟩
  · match j, hj with
    | 0, hj => cases hj; exact ⟨_, rfl, .inr ⟨5, rfl, rfl⟩⟩
    | 1, hj => cases hj; exact ⟨_, rfl, .inr ⟨6, rfl, rfl⟩⟩
end Req
end
end Go.Proofs.YtjhnpcnamclfbaaGreatDoor

/-! A range over a function whose iterator only reads what it has captured. -/
namespace Go.Proofs.YtjhnpcnamclfbaaGreatDoor
open Go Go.RowKit

/-- An iterator: 'C' the blocks that it has captured, 'Cap' what lies in them. -/
def IterR {α : Type} (F : Fence) (n : Nat) (P : Program) (g : Nat) (lb : Array Value) (enc : α → Value) (C : Nat → Prop) (Cap : World → Prop) (S Sp : List α → Prop) (N base : Nat) : Prop :=
  ∀ (l : Nat) (J Jx : (Nat → Prop) → List α → World → Prop) (W : World) (O : Nat → Prop), Cap W → base ≤ W.heap.size → (∀ k, C k → ¬ O k ∧ k < W.heap.size) → (∀ k, O k → k < W.heap.size) → StbO base J → StbO base Jx →
    (∀ pre x W1 O1, J O1 pre W1 → pre.length < N → YieldAt F (n - 1) P l #[enc x] W1 fun e W' =>
      (e = .returned (.bool true) ∧ ∃ O2, J O2 (pre ++ [x]) W' ∧ Rnd O1 O2 W1 W') ∨ (e = .returned (.bool false) ∧ ∃ O2, Jx O2 (pre ++ [x]) W' ∧ Rnd O1 O2 W1 W')) →
    J O [] W →
    CallsIn F n P g (#[.func (.yield l) #[] #[]] ++ lb) W fun e W' => (∃ v, e = .returned v) ∧ ((∃ xs O2, S xs ∧ J O2 xs W') ∨ (∃ pre O2, Sp pre ∧ Jx O2 pre W'))

variable {F : Fence} {n : Nat} {P : Program}
theorem wpIn_rangeFunc_R {α : Type} {g : Operand} {ps : Array Tmp} {assign body : Code} {Q : Exit → Act → World → Prop} {a : Act} {w : World}
    (hro : F.round = none) (h1 : 1 ≤ n) {gf : Nat} {lb : Array Value} (hg : a.eval g = .func (.func gf) #[] lb) (hFg : F.fn gf) (eg : ∀ args w, (callFunc gf args).run P w = .ok (.enter gf args) w)
    {enc : α → Value} {C : Nat → Prop} {Cap : World → Prop} {S Sp : List α → Prop} {N base : Nat} (hseq : IterR F (n - 1) P gf lb enc C Cap S Sp N base) (hps : ps.size = 1)
    (hCap : ∀ W, Chg (fun _ => False) w W → Cap W) (hbase : base ≤ w.heap.size)
    (I : (Nat → Prop) → List α → World → Prop) (Ix : Code → (Nat → Prop) → List α → World → Prop) (O0 : Nat → Prop) (hO0 : ∀ k, O0 k → k < w.heap.size) (hC : ∀ k, C k → ¬ O0 k ∧ k < w.heap.size)
    (hI : StbO base I) (hIx : ∀ c, StbO base (Ix c)) (h0 : I O0 [] w) (Asg : α → Act → World → Prop) (hAsg : ∀ x a1 A B, Asg x a1 A → Chg (fun k => k = w.heap.size + 1) A B → Asg x a1 B)
    (hassign : ∀ (l : Nat) (x : α) (W : World) (K : Act → World → Prop), w.heap.size + 2 ≤ W.heap.size → (∀ a1 W1, Asg x a1 W1 → Chg (fun _ => False) W W1 → K a1 W1) →
      assign.wpIn (F.inRound l) (n - 1 - 1) P (Exit.then K (fun _ _ _ => False)) { tmps := (ps.zip #[enc x]).foldl (fun t (p, v) => t.setIfInBounds p v) a.tmps, defers := [] } W)
    (hbody : ∀ (l : Nat) (pre : List α) (x : α) (a1 : Act) (W : World) (O1 : Nat → Prop), Asg x a1 W → w.heap.size + 1 = l → l < W.heap.size → (∀ k, O1 k → k ≠ l ∧ k ≠ w.heap.size) → I O1 pre W → pre.length < N → body.wpIn (F.inRound l) (n - 1 - 1) P (postO I Ix O1 (pre ++ [x]) W) a1 W)
    (hdone : ∀ (D : Nat) (xs : List α) (W : World) (O : Nat → Prop), D = w.heap.size → (∀ k, O k → k ≠ D) → S xs → I O xs W → W.heap[D]? = some (.deferred (some [])) → Q .normal { a with defers := { target := .collected D, args := #[] } :: a.defers } W)
    (hstop : ∀ (D : Nat) (c : Code) (pre : List α) (W : World) (O : Nat → Prop), D = w.heap.size → (∀ k, O k → k ≠ D) → Sp pre → Ix c O pre W → W.heap[D]? = some (.deferred (some [])) → c.wpIn F n P Q { a with defers := { target := .collected D, args := #[] } :: a.defers } W) :
    (Code.rangeFunc g ps assign body).wpIn F n P Q a w := by
  refine wpIn_rangeFunc ?_
  intro fn hfn
  rw [hro]
  obtain ⟨rec, hrec⟩ : ∃ rec : LoopState → Option Code → Loop, rec = fun st pe => { state := st, pending := pe, fn, tmps := a.tmps, params := ps, assign, body, defers := w.heap.size } := ⟨_, rfl⟩
  obtain ⟨W1, hW1⟩ : ∃ W1, (w.alloc (.deferred (some []))).alloc (.loop (rec .ready none)) = W1 := ⟨_, rfl⟩
  have hL1 : W1.heap[w.heap.size + 1]? = some (.loop (rec .ready none)) := by
    rw [← hW1]; have := World.alloc_heap_new (w.alloc (.deferred (some []))) (.loop (rec .ready none)); rwa [World.size_alloc] at this
  have hK1 : W1.heap[w.heap.size]? = some (.deferred (some [])) := by
    rw [← hW1]; exact (Below.heap_alloc _ _ _ (by simp)).trans (World.alloc_heap_new w _)
  have hchg1 : ∀ X, Chg X w W1 := fun X => by rw [← hW1]; exact (Chg.alloc w _ X).trans (Chg.alloc _ _ X)
  have hI1 : I O0 [] W1 := hI _ _ _ _ h0 (hchg1 _)
  have hsz1 : W1.heap.size = w.heap.size + 2 := by rw [← hW1]; simp
  refine ⟨w.heap.size + 1, [{ target := .collected w.heap.size, args := #[] }], W1, { target := .fn (.func gf) lb, args := #[.func (.yield (w.heap.size + 1)) #[] #[]] }, W1, gf,
    #[.func (.yield (w.heap.size + 1)) #[] #[]] ++ lb, W1, ?_, ?_, ?_, ?_, fun _ => h1, ?_⟩
  · rw [← hW1, hrec]; exact run_enterLoop_outer _ _ _ _ _
  · simp only [resolve, hg]
    simp [go_sem]
  · intro f' hf'; simp [Target.leads] at hf'; subst hf'; exact hFg
  · simp [invoke, go_sem, eg]
  · -- what the loop keeps between two rounds
    have keepL : ∀ {O : Nat → Prop} {A B : World} {k : Nat} {o : Obj}, O k → A.heap[k]? = some o → Chg (fun k => base ≤ k ∧ ¬ O k) A B → B.heap[k]? = some o := fun hO ho hc =>
      (hc.block _ (Array.getElem?_eq_some_iff.1 ho).1 (fun h => h.2 hO)).trans ho
    have stb : ∀ {I' : (Nat → Prop) → List α → World → Prop} {st : Loop}, StbO base I' → StbO base (fun O pre W => ∃ O', I' O' pre W ∧ (∀ k, O k ↔ (O' k ∨ k = w.heap.size + 1 ∨ k = w.heap.size)) ∧ (∀ k, O' k → k ≠ w.heap.size + 1 ∧ k ≠ w.heap.size) ∧ W.heap[w.heap.size + 1]? = some (.loop st) ∧ W.heap[w.heap.size]? = some (.deferred (some []))) :=
      fun hI' O pre A B ⟨O', q1, q2, q3, q4, q5⟩ hc => ⟨O', hI' _ _ _ _ q1 (hc.more fun k _ h => ⟨h.1, fun hk => h.2 ((q2 k).2 (.inl hk))⟩), q2, q3, keepL ((q2 _).2 (.inr (.inl rfl))) q4 hc, keepL ((q2 _).2 (.inr (.inr rfl))) q5 hc⟩
    refine (hseq (w.heap.size + 1)
      (fun O pre W => ∃ O', I O' pre W ∧ (∀ k, O k ↔ (O' k ∨ k = w.heap.size + 1 ∨ k = w.heap.size)) ∧ (∀ k, O' k → k ≠ w.heap.size + 1 ∧ k ≠ w.heap.size) ∧ W.heap[w.heap.size + 1]? = some (.loop (rec .ready none)) ∧ W.heap[w.heap.size]? = some (.deferred (some [])))
      (fun O pre W => ∃ c, ∃ O', Ix c O' pre W ∧ (∀ k, O k ↔ (O' k ∨ k = w.heap.size + 1 ∨ k = w.heap.size)) ∧ (∀ k, O' k → k ≠ w.heap.size + 1 ∧ k ≠ w.heap.size) ∧ W.heap[w.heap.size + 1]? = some (.loop (rec .done (some c))) ∧ W.heap[w.heap.size]? = some (.deferred (some [])))
      W1 (fun k => O0 k ∨ k = w.heap.size + 1 ∨ k = w.heap.size) (hCap W1 (hchg1 _)) (by omega) (fun k hk => by
        obtain ⟨c2, c3⟩ := hC k hk
        exact ⟨fun h => by rcases h with h | h | h <;> first | exact c2 h | omega, by omega⟩) (fun k hk => by
        rcases hk with h | h | h
        · have := hO0 k h; omega
        · omega
        · omega) (stb hI) (fun O pre A B ⟨c, h⟩ hc => ⟨c, stb (hIx c) O pre A B h hc⟩) ?_
      ⟨O0, hI1, fun _ => Iff.rfl, fun k hk => by have := hO0 k hk; omega, hL1, hK1⟩).mono ?_
    · -- one round
      rintro pre x V O1 ⟨O', hi0, ho1, ho2, hl0, hk0⟩ hlen
      have hlt0 : w.heap.size + 1 < V.heap.size := (Array.getElem?_eq_some_iff.1 hl0).1
      have hy := run_yield (P := P) (args := #[enc x]) hl0 (by rw [hrec]; simp [hps])
      rw [hrec] at hy
      refine ⟨fn, _, assign, body, hy, roundIn_of_wpIn hfn (hassign _ x V _ (by omega) ?_)⟩
      clear hy
      intro a1 W hA hcW
      have hlt : w.heap.size + 1 < W.heap.size := Nat.lt_of_lt_of_le hlt0 hcW.size
      have hi := hI _ _ _ _ hi0 (hcW.more fun _ _ h => h.elim)
      have hl := (hcW.block _ hlt0 (fun h => h)).trans hl0
      have hk := (hcW.block _ (by omega) (fun h => h)).trans hk0
      refine ⟨_, run_beginRound hl (by rw [hrec]), ?_⟩
      have hl2 : (W.putObj (w.heap.size + 1) (.loop { rec .ready none with state := .busy })).heap[w.heap.size + 1]? = some (.loop { rec .ready none with state := .busy }) := World.putObj_heap_same hlt
      have hk2 : (W.putObj (w.heap.size + 1) (.loop { rec .ready none with state := .busy })).heap[w.heap.size]? = some (.deferred (some [])) := (World.putObj_heap_other (by omega)).trans hk
      have hsz : (W.putObj (w.heap.size + 1) (.loop { rec .ready none with state := .busy })).heap.size = W.heap.size := World.putObj_size
      have hnl : ¬ O' (w.heap.size + 1) := fun h => (ho2 _ h).1 rfl
      refine wpIn_mono (hbody _ pre x a1 _ O' (hAsg _ _ _ _ hA (Chg.putObj W _ _ rfl)) rfl (by rw [hsz]; exact hlt) ho2 (hI _ _ _ _ hi (Chg.putObj W _ _ ⟨by omega, hnl⟩)) hlen) ?_
      have fin : ∀ (jump : Option Code) (W3 : World) (O2 : Nat → Prop), Rnd O' O2 (W.putObj (w.heap.size + 1) (.loop { rec .ready none with state := .busy })) W3 →
          (Instr.endRound (w.heap.size + 1) jump).run P W3 = .ok (.bool jump.isNone) (W3.putObj (w.heap.size + 1) (.loop (rec (if jump.isNone then .ready else .done) jump))) ∧
          (∀ k, O2 k → k ≠ w.heap.size + 1 ∧ k ≠ w.heap.size) ∧
          Chg (fun k => base ≤ k ∧ ¬ O2 k) W3 (W3.putObj (w.heap.size + 1) (.loop (rec (if jump.isNone then .ready else .done) jump))) ∧
          (W3.putObj (w.heap.size + 1) (.loop (rec (if jump.isNone then .ready else .done) jump))).heap[w.heap.size + 1]? = some (.loop (rec (if jump.isNone then .ready else .done) jump)) ∧
          (W3.putObj (w.heap.size + 1) (.loop (rec (if jump.isNone then .ready else .done) jump))).heap[w.heap.size]? = some (.deferred (some [])) ∧
          Rnd O1 (fun k => O2 k ∨ k = w.heap.size + 1 ∨ k = w.heap.size) V (W3.putObj (w.heap.size + 1) (.loop (rec (if jump.isNone then .ready else .done) jump))) := fun jump W3 O2 hr3 => by
        have hl3 : W3.heap[w.heap.size + 1]? = some (.loop { rec .ready none with state := .busy }) := (hr3.1.block _ (by rw [hsz]; exact hlt) hnl).trans hl2
        have hk3 : W3.heap[w.heap.size]? = some (.deferred (some [])) := (hr3.1.block _ (by rw [hsz]; omega) (fun h => (ho2 _ h).2 rfl)).trans hk2
        have hno2 : ∀ k, O2 k → k ≠ w.heap.size + 1 ∧ k ≠ w.heap.size := fun k h => by
          rcases hr3.2 k h with h1 | h1
          · exact ho2 k h1
          · rw [hsz] at h1; omega
        have hrun := run_endRound (P := P) jump hl3
        refine ⟨by rw [hrec] at hrun ⊢; exact hrun, hno2, Chg.putObj W3 _ _ ⟨by omega, fun h => (hno2 _ h).1 rfl⟩, World.putObj_heap_same (Array.getElem?_eq_some_iff.1 hl3).1, (World.putObj_heap_other (by omega)).trans hk3, ?_, ?_⟩
        · have e1 : Chg O1 V (W.putObj (w.heap.size + 1) (.loop { rec .ready none with state := .busy })) := (hcW.more fun _ _ h => h.elim).trans (Chg.putObj W _ _ ((ho1 _).2 (.inr (.inl rfl))))
          have e2 : Chg O1 (W.putObj (w.heap.size + 1) (.loop { rec .ready none with state := .busy })) W3 := hr3.1.more fun k _ h => (ho1 k).2 (.inl h)
          exact (e1.trans e2).trans (Chg.putObj W3 _ _ ((ho1 _).2 (.inr (.inl rfl))))
        · intro k hk'
          rcases hk' with h | h | h
          · have h1 := hr3.2 k h
            rw [hsz] at h1
            exact h1.imp (fun h => (ho1 k).2 (.inl h)) (fun h => Nat.le_trans hcW.size h)
          · exact .inl ((ho1 k).2 (.inr (.inl h)))
          · exact .inl ((ho1 k).2 (.inr (.inr h)))
      rintro e a3 W3 hp
      cases e with
      | normal =>
        obtain ⟨O2, hi3, hr3⟩ := hp
        obtain ⟨f1, f2, f3, f4, f5, f6⟩ := fin none W3 O2 hr3
        exact ⟨_, _, f1, .inl ⟨rfl, _, ⟨O2, hI _ _ _ _ hi3 f3, fun _ => Iff.rfl, f2, f4, f5⟩, f6⟩⟩
      | ret =>
        obtain ⟨O2, hi3, hr3⟩ := hp
        obtain ⟨f1, f2, f3, f4, f5, f6⟩ := fin (some .ret) W3 O2 hr3
        exact ⟨_, _, f1, .inr ⟨rfl, _, ⟨.ret, O2, hIx _ _ _ _ _ hi3 f3, fun _ => Iff.rfl, f2, f4, f5⟩, f6⟩⟩
      | exit id =>
        obtain ⟨O2, hi3, hr3⟩ := hp
        obtain ⟨f1, f2, f3, f4, f5, f6⟩ := fin (some (.exit id)) W3 O2 hr3
        exact ⟨_, _, f1, .inr ⟨rfl, _, ⟨.exit id, O2, hIx _ _ _ _ _ hi3 f3, fun _ => Iff.rfl, f2, f4, f5⟩, f6⟩⟩
      | goto t =>
        obtain ⟨O2, hi3, hr3⟩ := hp
        obtain ⟨f1, f2, f3, f4, f5, f6⟩ := fin (some (.goto t)) W3 O2 hr3
        exact ⟨_, _, f1, .inr ⟨rfl, _, ⟨.goto t, O2, hIx _ _ _ _ _ hi3 f3, fun _ => Iff.rfl, f2, f4, f5⟩, f6⟩⟩
      | panic ch => exact hp.elim
      | outgrown => exact hp.elim
    · -- behind the iterator
      rintro e W2 ⟨⟨v, rfl⟩, (⟨xs, O, hS, O', hi, ho1, ho2, hl, hk⟩ | ⟨pre, O, hSp, c, O', hi, ho1, ho2, hl, hk⟩)⟩
      · exact ⟨none, _, by have := run_endLoop (P := P) hl (by rw [hrec]; simp); rw [hrec] at this; exact this, hdone _ xs _ O' rfl (fun k h => (ho2 k h).2) hS (hI _ _ _ _ hi (Chg.putObj _ _ _ ⟨by omega, fun h => (ho2 _ h).1 rfl⟩)) ((World.putObj_heap_other (by omega)).trans hk)⟩
      · exact ⟨some c, _, by have := run_endLoop (P := P) hl (by rw [hrec]; simp); rw [hrec] at this; exact this, hstop _ c pre _ O' rfl (fun k h => (ho2 k h).2) hSp (hIx c _ _ _ _ hi (Chg.putObj _ _ _ ⟨by omega, fun h => (ho2 _ h).1 rfl⟩)) ((World.putObj_heap_other (by omega)).trans hk)⟩
theorem wpIn_rangeFunc_B {α : Type} {g : Operand} {ps : Array Tmp} {assign body : Code} {Q : Exit → Act → World → Prop} {a : Act} {w : World}
    (hro : F.round = none) (h1 : 1 ≤ n) {gf : Nat} {lb : Array Value} (hg : a.eval g = .func (.func gf) #[] lb) (hFg : F.fn gf) (eg : ∀ args w, (callFunc gf args).run P w = .ok (.enter gf args) w)
    {enc : α → Value} {C : Nat → Prop} {Cap : World → Prop} {S Sp : List α → Prop} {N base : Nat} (hseq : IterR F (n - 1) P gf lb enc C Cap S Sp N base) (hps : ps.size = 1)
    (hCap : ∀ W, Chg (fun _ => False) w W → Cap W) (hbase : base ≤ w.heap.size)
    (I : (Nat → Prop) → List α → World → Prop) (Ix : Code → (Nat → Prop) → List α → World → Prop) (O0 : Nat → Prop) (hO0 : ∀ k, O0 k → k < w.heap.size) (hC : ∀ k, C k → ¬ O0 k ∧ k < w.heap.size)
    (hI : StbO base I) (hIx : ∀ c, StbO base (Ix c)) (h0 : I O0 [] w) (A : α → Nat → Act) (Bx : α → Nat → World → Prop) (hBx : ∀ x B X Y, w.heap.size + 2 ≤ B → Bx x B X → Chg (fun k => k = w.heap.size + 1) X Y → Bx x B Y)
    (hassign : ∀ (l : Nat) (x : α) (W : World) (K : Act → World → Prop), w.heap.size + 2 ≤ W.heap.size → (∀ B W1, B = W.heap.size → Bx x B W1 → Chg (fun _ => False) W W1 → K (A x B) W1) →
      assign.wpIn (F.inRound l) (n - 1 - 1) P (Exit.then K (fun _ _ _ => False)) { tmps := (ps.zip #[enc x]).foldl (fun t (p, v) => t.setIfInBounds p v) a.tmps, defers := [] } W)
    (hbody : ∀ (l : Nat) (pre : List α) (x : α) (B : Nat) (W : World) (O1 : Nat → Prop), w.heap.size + 2 ≤ B → Bx x B W → w.heap.size + 1 = l → l < W.heap.size → (∀ k, O1 k → k ≠ l ∧ k ≠ w.heap.size) → I O1 pre W → pre.length < N → body.wpIn (F.inRound l) (n - 1 - 1) P (postO I Ix O1 (pre ++ [x]) W) (A x B) W)
    (hdone : ∀ (D : Nat) (xs : List α) (W : World) (O : Nat → Prop), D = w.heap.size → (∀ k, O k → k ≠ D) → S xs → I O xs W → W.heap[D]? = some (.deferred (some [])) → Q .normal { a with defers := { target := .collected D, args := #[] } :: a.defers } W)
    (hstop : ∀ (D : Nat) (c : Code) (pre : List α) (W : World) (O : Nat → Prop), D = w.heap.size → (∀ k, O k → k ≠ D) → Sp pre → Ix c O pre W → W.heap[D]? = some (.deferred (some [])) → c.wpIn F n P Q { a with defers := { target := .collected D, args := #[] } :: a.defers } W) :
    (Code.rangeFunc g ps assign body).wpIn F n P Q a w :=
  wpIn_rangeFunc_R hro h1 hg hFg eg hseq hps hCap hbase I Ix O0 hO0 hC hI hIx h0 (fun x a1 W => ∃ B, w.heap.size + 2 ≤ B ∧ a1 = A x B ∧ Bx x B W)
    (fun x a1 X Y ⟨B, q1, q2, q3⟩ hc => ⟨B, q1, q2, hBx x B X Y q1 q3 hc⟩)
    (fun l x W K hs hK => hassign l x W K hs fun B W1 e hb hc => hK _ _ ⟨B, by omega, rfl, hb⟩ hc)
    (fun l pre x a1 W O1 ⟨B, q1, q2, q3⟩ el hl hno hi hlen => by subst q2; exact hbody l pre x B W O1 q1 q3 el hl hno hi hlen) hdone hstop
end Go.Proofs.YtjhnpcnamclfbaaGreatDoor
