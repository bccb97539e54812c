/- Requests: rows of their parts. A request's bytes: how they are cut, joined, and written: plain laws, and the rows they give. Requests: their parts' rows are so, whatever else the symbols stand for. No condition. -/
import Derived.Test.YtnnhijfbdkokkaaGreatDoorCh
import Derived.Test.YtnnhijfbdkokkaaGreatDoorSh
import Derived.Lib.SmallJoins
/-! Requests: rows of their parts. -/
namespace Go.Proofs.YtnnhijfbdkokkaaGreatDoor
open Go Go.Eng Go.RowKit
noncomputable section
set_option maxRecDepth 100000

theorem gl_has : hasG gl (stOf gl) = true := by kernel_rfl

/-- The length bound's variable is an int. -/
theorem maxLen_cell {B : Base} {ρ : Rho} {σ : Nat → Value} {s : St} {w : World} (h : R B ρ σ s w) (hs : hasG gl s = true) {m : Int} (hm : σ 900 = .int .i64 m) : w.cell? ⟨gMax, 0, none⟩ = some (.int .i64 m) := by
  have hg := hasG_spec hs ⟨gMax, [.sym 900], 3⟩ (by simp [gl])
  obtain ⟨L, hL, hv⟩ := h.vars gMax (by unfold gMax gN; omega)
  obtain ⟨e1, e2⟩ := hv (by unfold gMax vN; omega)
  obtain ⟨ob, hob, c, t, fr, rfl, _, _, hc, _⟩ := h.here hg hL
  obtain ⟨v, r, e, ⟨hvv, _⟩, hr⟩ := hc
  rw [e1] at hob
  rw [e2, List.drop_zero] at e
  have : c[0]? = some v := by
    rw [← Array.getElem?_toList]
    have : (c.toList.take 1)[0]? = some v := by
      have e' : c.toList.take 1 = v :: r := e
      rw [e']; rfl
    rw [List.getElem?_take] at this
    simpa using this
  rw [cell_at hob, this, hvv, hm]

/-- A list's member. -/
def pick {α : Type} (z : α) (l : List α) : Nat → α := List.rec (motive := fun _ => Nat → α) (fun _ => z) (fun x _ ih i => Nat.rec (motive := fun _ => α) x (fun j _ => ih j) i) l
def wordsB : List (List Nat) := [[112, 97, 114, 115, 101], [100, 101, 115, 99, 114, 105, 98, 101], [112, 114, 101, 118, 105, 101, 119], [99, 104, 101, 99, 107]]
def localesB : List (List Nat) := [[101, 110], [100, 101], [102, 114], [112, 108], [120, 120], [255]]
def wordA (k : Nat) : AV := .str (pick [] wordsB k)
def locA (l : Nat) : AV := .str (pick [] localesB l)
/-- A request's fields ahead of its rest. -/
def fieldsA (k l : Nat) : List AV := pick [] [[wordA 0, locA l, .sym 21], [wordA 1, locA l], [wordA 2, locA l, .sym 21, .sym 22, .sym 23, .sym 24, .sym 25], [wordA 3]] k
def preA (k l : Nat) : List Nat := pick [] [pick [] wordsB k ++ 32 :: (pick [] localesB l ++ [32]), pick [] wordsB k ++ 32 :: (pick [] localesB l ++ [32]), pick [] wordsB k ++ 32 :: (pick [] localesB l ++ [32]), pick [] wordsB k ++ [32]] k
def orDay (j : Nat) : List OR := [⟨4, [.sym (Nat.add 2 j), .int .u32 3652059], .sym (Nat.add 10 (Nat.mul 3 j))⟩, ⟨cv tU32 tDay, [.sym (Nat.add 10 (Nat.mul 3 j))], .sym (Nat.add 11 (Nat.mul 3 j))⟩, ⟨0, [.int .i64 1, .sym (Nat.add 11 (Nat.mul 3 j))], .sym (Nat.add 12 (Nat.mul 3 j))⟩, ⟨12, [.sym (Nat.add 12 (Nat.mul 3 j)), .sym (Nat.add 12 (Nat.mul 3 j))], .bool false⟩]
def krDay (j : Nat) : List KR := [⟨fText, [.sym (Nat.add 12 (Nat.mul 3 j))], ⟨.sym (Nat.add 21 j), []⟩⟩, ⟨fParse, [.sym (Nat.add 21 j)], ⟨.tuple [.sym (Nat.add 12 (Nat.mul 3 j)), .bool true], []⟩⟩]
def orNum (j : Nat) : List OR := [⟨cv tU32 tInt, [.sym (Nat.add 5 j)], .sym (Nat.add 19 j)⟩, ⟨11, [.sym (Nat.add 24 j), .sym (Nat.add 24 j)], .bool true⟩, ⟨16, [.sym (Nat.add 19 j), .int .i64 0], .bool true⟩, ⟨12, [.sym (Nat.add 19 j), .sym (Nat.add 19 j)], .bool false⟩]
def krNum (j : Nat) : List KR := [⟨fItoa, [.sym (Nat.add 19 j)], ⟨.sym (Nat.add 24 j), []⟩⟩, ⟨fAtoi, [.sym (Nat.add 24 j)], ⟨.tuple [.sym (Nat.add 19 j), .nilIface], []⟩⟩]
def daysOf (k : Nat) : List Nat := pick [] [[0], [], [0, 1, 2], []] k
def numsOf (k : Nat) : List Nat := pick [] [[], [], [0, 1], []] k
def catR (l : List (List OR)) : List OR := List.rec (motive := fun _ => List OR) [] (fun x _ ih => x ++ ih) l
def catK (l : List (List KR)) : List KR := List.rec (motive := fun _ => List KR) [] (fun x _ ih => x ++ ih) l
/-- What is cut off. -/
def krCuts (z i : Nat) (l : List AV) : List KR := List.rec (motive := fun _ => Nat → List KR) (fun _ => []) (fun a r ih i => ⟨fCut, [.sym i, .str [32]], ⟨.tuple [a, List.rec (motive := fun _ => AV) (.sym z) (fun _ _ _ => .sym (Nat.succ i)) r, .bool true], []⟩⟩ :: ih (Nat.succ i)) l i
def locs6 : List Nat := [0, 1, 2, 3, 4, 5]
def qA : AV := .agg [.sym 0, .sym 1, .sym 2, .sym 3, .sym 4, .sym 5, .sym 6, .sym 7]
end
end Go.Proofs.YtnnhijfbdkokkaaGreatDoor

/-! A request's bytes: how they are cut, joined, and written: plain laws, and the rows they give. -/
namespace Go.Proofs.YtnnhijfbdkokkaaGreatDoor
open Go Go.Eng Go.RowKit
noncomputable section
set_option maxRecDepth 100000

/-! ### Plain laws -/
def tailS : List (List UInt8) → List UInt8 → List UInt8
  | [], t => t
  | f :: fs, t => f ++ 32 :: tailS fs t
theorem indexByte_at : ∀ (a b : List UInt8), 32 ∉ a → Lib.indexByte (a ++ 32 :: b) 32 = (a.length : Int)
  | [], _, _ => rfl
  | x :: a, b, h => by
    have hx : x ≠ 32 := fun e => h (by simp [e])
    have ih := indexByte_at a b (fun e => h (by simp [e]))
    have hn : (x == (32 : UInt8)) = false := by rw [beq_eq_false_iff_ne]; exact hx
    rw [List.cons_append]
    unfold Lib.indexByte
    rw [hn, ih]
    simp only [Bool.false_eq_true, if_false]
    rw [if_neg (by rw [beq_iff_eq]; omega)]
    rw [List.length_cons]; omega
theorem cut_at (a b : List UInt8) (h : 32 ∉ a) : Lib.cut (a ++ 32 :: b) [32] = (a, b, true) := by
  unfold Lib.cut
  rw [Lib.index_one, indexByte_at a b h, if_pos (by omega)]
  rw [Int.toNat_natCast, List.take_left, List.length_singleton, List.drop_append, List.drop_of_length_le (by omega), show a.length + 1 - a.length = 1 by omega]; rfl
theorem join_tail : ∀ (fs : List (List UInt8)) (t : List UInt8), Lib.join (fs ++ [t]) [32] = tailS fs t
  | [], t => Lib.join_one t [32]
  | [f], t => by
    rw [List.cons_append, Lib.join_cons, List.nil_append]
    show f ++ (([t]).map ([32] ++ ·)).flatten = _
    simp [tailS]
  | f :: g :: fs, t => by
    have ih := join_tail (g :: fs) t
    rw [List.cons_append, Lib.join_cons] at ih ⊢
    rw [List.cons_append]
    show f ++ (((g :: (fs ++ [t])).map ([32] ++ ·))).flatten = f ++ 32 :: tailS (g :: fs) t
    rw [← ih, List.map_cons, List.flatten_cons]
    rfl
theorem tailS_len : ∀ (fs : List (List UInt8)) (t : List UInt8) (n : Nat), (∀ f ∈ fs, f.length ≤ n) → (tailS fs t).length ≤ fs.length * (n + 1) + t.length
  | [], _, _, _ => by simp [tailS]
  | f :: fs, t, n, h => by
    have ih := tailS_len fs t n (fun g hg => h g (by simp [hg]))
    have h1 := h f (by simp)
    show (f ++ 32 :: tailS fs t).length ≤ _
    rw [List.length_append, List.length_cons, List.length_cons, Nat.add_mul]; omega

/-! ### Contracts under all the variables -/
abbrev CG (f : FuncId) (va : Array Value) (u : Value) : Prop := CallsV Tryz.prog gl f va u tabV
theorem CW.g {f : FuncId} {va : Array Value} {u : Value} (h : CW f va u) : CG f va u := fun w hw => h w (varsC hw)
theorem c_cut {a b : List UInt8} (h : 32 ∉ a) (hl : (a ++ 32 :: b).length < 4294967281) : CG fCut #[strV (a ++ 32 :: b), strV [32]] (.tuple #[strV a, strV b, .bool true]) := by
  intro w ⟨m, hm⟩ _
  obtain ⟨ρ, hR⟩ := hm (fun _ => .int .i64 m) rfl
  refine (Tryz.strings_Cut ⟨(a ++ 32 :: b).toArray⟩ ⟨#[32]⟩ m w (by show (a ++ 32 :: b).toArray.size < _; rw [List.size_toArray]; exact hl) (maxLen_cell hR gl_has rfl)).mono ?_
  rintro e w' ⟨rfl, k, rfl⟩
  refine ⟨?_, Go.Joins.below_draws _ _ _⟩
  show Ending.returned (.tuple #[.string ⟨(Lib.cut (a ++ 32 :: b) [32]).1.toArray⟩, .string ⟨(Lib.cut (a ++ 32 :: b) [32]).2.1.toArray⟩, .bool (Lib.cut (a ++ 32 :: b) [32]).2.2]) = _
  rw [cut_at a b h]; rfl

/-! ### Rows -/
/-- What a field's value stands for. -/
def Fld (σ : Nat → Value) (a : AV) (f : List UInt8) : Prop := conc σ a = .str (nats f) ∧ plainA a = true ∧ tells a = true ∧ 32 ∉ f ∧ VR (fun _ => none) σ a (strV f)
def Flds (σ : Nat → Value) : List AV → List (List UInt8) → Prop
  | [], [] => True
  | a :: l, f :: fs => Fld σ a f ∧ Flds σ l fs
  | _, _ => False
theorem Fld.str {σ : Nat → Value} {f : List UInt8} (h : 32 ∉ f) : Fld σ (.str (nats f)) f := ⟨rfl, rfl, rfl, h, ⟨_, rfl, rfl⟩⟩
theorem Fld.sym {σ : Nat → Value} {i : Nat} {f : List UInt8} (h : 32 ∉ f) (e : σ i = strV f) : Fld σ (.sym i) f := ⟨by show concS i (σ i) = _; rw [e]; rfl, rfl, rfl, h, ⟨e.symm, rfl⟩⟩

def cutV : List (List UInt8) → List UInt8 → List Value
  | [], t => [strV t]
  | f :: fs, t => strV (tailS (f :: fs) t) :: cutV fs t
def outV : List UInt8 → List (List UInt8) → List Value
  | _, [] => []
  | p, f :: fs => strV (p ++ f) :: strV ((p ++ f) ++ [32]) :: outV ((p ++ f) ++ [32]) fs

theorem krCuts_ok {σ : Nat → Value} {m : Int} (hm : σ kM = .int .i64 m) {t : List UInt8} {z : Nat} (h7 : σ z = strV t) : ∀ (l : List AV) (fs : List (List UInt8)) (i : Nat), Flds σ l fs → (∀ j, j < fs.length → σ (i + j) = strV (tailS (fs.drop j) t)) → (tailS fs t).length < 4294967281 →
    ∀ r ∈ krCuts z i l, KRow Tryz.prog gl σ r.f r.args r.img tabV
  | [], _, _, _, _, _, r, hr => by cases hr
  | a :: l, [], _, h, _, _, _, _ => h.elim
  | a :: l, f :: fs, i, ⟨hf, hl⟩, hσ, hlen, r, hr => by
    have hi : σ i = strV (f ++ 32 :: tailS fs t) := hσ 0 (by simp)
    have hfl : (f ++ 32 :: tailS fs t).length < 4294967281 := hlen
    rcases List.mem_cons.1 hr with rfl | hr
    · have key : ∀ nx : AV, plainA nx = true → VR (fun _ => none) σ nx (strV (tailS fs t)) → KRow Tryz.prog gl σ fCut [.sym i, .str [32]] ⟨.tuple [a, nx, .bool true], []⟩ tabV := fun nx hp hv =>
        KRow.ofV glOK gl_bareM hm rfl (va := #[strV (f ++ 32 :: tailS fs t), strV [32]]) ⟨_, _, rfl, ⟨hi.symm, rfl⟩, _, _, rfl, ⟨_, rfl, rfl⟩, rfl⟩ (.inr ⟨_, rfl, by simp [hf.2.1, hp]; rfl⟩) (u := .tuple #[strV f, strV (tailS fs t), .bool true]) ⟨_, rfl, _, _, rfl, hf.2.2.2.2, _, _, rfl, hv, _, _, rfl, rfl, rfl⟩ (c_cut hf.2.2.2.1 hfl)
      cases l with
      | nil =>
        cases fs with
        | nil => exact key (.sym z) rfl ⟨h7.symm, rfl⟩
        | cons _ _ => exact hl.elim
      | cons b l =>
        cases fs with
        | nil => exact hl.elim
        | cons g fs =>
          have := hσ 1 (by simp)
          exact key (.sym (i + 1)) rfl ⟨this.symm, rfl⟩
    · have hll : (f ++ 32 :: tailS fs t).length = f.length + ((tailS fs t).length + 1) := by rw [List.length_append, List.length_cons]
      refine krCuts_ok hm h7 l fs (i + 1) hl (fun j hj => ?_) (by omega) r hr
      have := hσ (j + 1) (by simp; omega)
      rw [show i + 1 + j = i + (j + 1) by omega]; exact this

end
end Go.Proofs.YtnnhijfbdkokkaaGreatDoor

/-! Requests: their parts' rows are so, whatever else the symbols stand for. -/
namespace Go.Proofs.YtnnhijfbdkokkaaGreatDoor
open Go Go.Eng Go.RowKit
noncomputable section
set_option maxRecDepth 100000

def words8 : List (List UInt8) := [[112, 97, 114, 115, 101], [100, 101, 115, 99, 114, 105, 98, 101], [112, 114, 101, 118, 105, 101, 119], [99, 104, 101, 99, 107]]
def locales8 : List (List UInt8) := [[101, 110], [100, 101], [102, 114], [112, 108], [120, 120], [255]]
def wd (k : Nat) : List UInt8 := pick [] words8 k
def lo (l : Nat) : List UInt8 := pick [] locales8 l
theorem wd_nats {k : Nat} (h : k < 4) : nats (wd k) = pick [] wordsB k := by
  match k, h with
  | 0, _ => rfl
  | 1, _ => rfl
  | 2, _ => rfl
  | 3, _ => rfl
theorem lo_nats {l : Nat} (h : l < 6) : nats (lo l) = pick [] localesB l := by
  match l, h with
  | 0, _ => rfl
  | 1, _ => rfl
  | 2, _ => rfl
  | 3, _ => rfl
  | 4, _ => rfl
  | 5, _ => rfl
theorem wd_ok {k : Nat} (h : k < 4) : 32 ∉ wd k ∧ (wd k).length ≤ 10 := by
  have : ∀ k, k < 4 → 32 ∉ wd k ∧ (wd k).length ≤ 10 := by decide
  exact this k h
theorem lo_ok {l : Nat} (h : l < 6) : 32 ∉ lo l ∧ (lo l).length ≤ 10 := by
  have : ∀ l, l < 6 → 32 ∉ lo l ∧ (lo l).length ≤ 10 := by decide
  exact this l h
theorem fW {σ : Nat → Value} {k : Nat} (hk : k < 4) : Fld σ (wordA k) (wd k) := by
  unfold wordA; rw [← wd_nats hk]; exact Fld.str (wd_ok hk).1
theorem fL {σ : Nat → Value} {l : Nat} (hl : l < 6) : Fld σ (locA l) (lo l) := by
  unfold locA; rw [← lo_nats hl]; exact Fld.str (lo_ok hl).1
theorem cutV_at (t : List UInt8) : ∀ (fs : List (List UInt8)) (j : Nat), j ≤ fs.length → (cutV fs t)[j]? = some (strV (tailS (fs.drop j) t))
  | [], 0, _ => rfl
  | [], j + 1, h => by simp at h
  | f :: fs, 0, _ => rfl
  | f :: fs, j + 1, h => by
    show (cutV fs t)[j]? = _
    exact cutV_at t fs j (by simpa using h)
theorem dayT_ok {n y mm d : Nat} (hd : Dated n y mm d) : 32 ∉ dayT y mm d ∧ (dayT y mm d).length ≤ 10 := by
  refine ⟨fun hm => ?_, Nat.le_of_eq hd.l10⟩
  unfold dayT at hm
  simp only [List.mem_append, List.mem_singleton] at hm
  have hp : ∀ {u size : Nat}, 32 ∈ pad u size → False := fun hq => by have := (pad_all _ _ 32 hq).1; revert this; decide
  rcases hm with (((hm | hm) | hm) | hm) | hm
  · exact hp hm
  · revert hm; decide
  · exact hp hm
  · revert hm; decide
  · exact hp hm
theorem dec_ok {u : Nat} (h : u < 4294967296) : 32 ∉ Lib.decDigits u ∧ (Lib.decDigits u).length ≤ 10 := by
  refine ⟨fun hm => ?_, ?_⟩
  · have := (digits_all _ 32 hm).1; revert this; decide
  · rw [Lib.decDigits_length]
    exact nDigits_le 9 _ (by omega)
theorem catR_mem {r : OR} : ∀ {l : List (List OR)}, r ∈ catR l → ∃ x ∈ l, r ∈ x
  | [], h => by cases h
  | x :: l, h => by
    have h : r ∈ x ++ catR l := h
    rcases List.mem_append.1 h with h | h
    · exact ⟨x, by simp, h⟩
    · obtain ⟨y, hy, h⟩ := catR_mem h
      exact ⟨y, by simp [hy], h⟩
theorem catK_mem {r : KR} : ∀ {l : List (List KR)}, r ∈ catK l → ∃ x ∈ l, r ∈ x
  | [], h => by cases h
  | x :: l, h => by
    have h : r ∈ x ++ catK l := h
    rcases List.mem_append.1 h with h | h
    · exact ⟨x, by simp, h⟩
    · obtain ⟨y, hy, h⟩ := catK_mem h
      exact ⟨y, by simp [hy], h⟩
theorem days3 {k j : Nat} (hk : k < 4) (h : j ∈ daysOf k) : j < 3 := by
  have : ∀ k, k < 4 → ∀ j ∈ daysOf k, j < 3 := by decide
  exact this k hk j h
theorem nums2 {k j : Nat} (hk : k < 4) (h : j ∈ numsOf k) : j < 2 := by
  have : ∀ k, k < 4 → ∀ j ∈ numsOf k, j < 2 := by decide
  exact this k hk j h
theorem tmodN (a b : Nat) : ((a : Int)).tmod (b : Int) = ((a % b : Nat) : Int) := (Int.ofNat_tmod a b).symm
theorem pad_self (u : Nat) : pad u (Lib.nDigits u) = Lib.decDigits u := by
  unfold pad zeros
  rw [Nat.sub_self]; rfl
theorem Flds.vals {σ : Nat → Value} {a : AV} {t : List UInt8} (ha : VR (fun _ => none) σ a (strV t)) : ∀ {l : List AV} {fs : List (List UInt8)}, Flds σ l fs → VRs (fun _ => none) σ (l ++ [a]) ((fs ++ [t]).map strV)
  | [], [], _ => ⟨_, _, rfl, ha, rfl⟩
  | [], _ :: _, h => h.elim
  | _ :: _, [], h => h.elim
  | _ :: _, _ :: _, ⟨h, hl⟩ => ⟨_, _, rfl, h.2.2.2.2, Flds.vals ha hl⟩
theorem Flds.tell {σ : Nat → Value} : ∀ {l : List AV} {fs : List (List UInt8)}, Flds σ l fs → l.all tells = true
  | [], [], _ => rfl
  | [], _ :: _, h => h.elim
  | _ :: _, [], h => h.elim
  | _ :: _, _ :: _, ⟨h, hl⟩ => by rw [List.all_cons, h.2.2.1, Flds.tell hl]; rfl

/-- What a request's days stand for. -/
structure DaysOK (σ : Nat → Value) (s : Nat → Nat) (D : Nat → List UInt8) : Prop where
  e2 : ∀ j, j < 3 → σ (2 + j) = .int .u32 (s j)
  e10 : ∀ j, j < 3 → σ (10 + 3 * j) = .int .u32 (s j % 3652059 : Nat)
  e11 : ∀ j, j < 3 → σ (11 + 3 * j) = .int .i64 (s j % 3652059 : Nat)
  e12 : ∀ j, j < 3 → σ (12 + 3 * j) = .int .i64 (1 + s j % 3652059 : Nat)
  e21 : ∀ j, j < 3 → σ (21 + j) = strV (D j)
  dt : ∀ j, j < 3 → ∃ y mm d, Dated (1 + s j % 3652059) y mm d ∧ D j = dayT y mm d
/-- What its numbers stand for. -/
structure NumsOK (σ : Nat → Value) (b : Nat → Nat) : Prop where
  e5 : ∀ j, j < 2 → σ (5 + j) = .int .u32 (b j)
  e19 : ∀ j, j < 2 → σ (19 + j) = .int .i64 (b j)
  e24 : ∀ j, j < 2 → σ (24 + j) = strV (Lib.decDigits (b j))
  bt : ∀ j, j < 2 → b j < 4294967296

theorem orDay_ok {E : Env} (ht : E.ty = E0.ty) {σ : Nat → Value} {s : Nat → Nat} {D : Nat → List UInt8} (h : DaysOK σ s D) {j : Nat} (hj : j < 3) : ∀ r ∈ orDay j, RowOK E 9 σ r := by
  have e2 : conc σ (.sym (2 + j)) = .int .u32 (s j) := by show concS (2 + j) (σ (2 + j)) = _; rw [h.e2 j hj]; rfl
  have e10 : conc σ (.sym (10 + 3 * j)) = .int .u32 (s j % 3652059 : Nat) := by show concS (10 + 3 * j) (σ (10 + 3 * j)) = _; rw [h.e10 j hj]; rfl
  have e11 : conc σ (.sym (11 + 3 * j)) = .int .i64 (s j % 3652059 : Nat) := by show concS (11 + 3 * j) (σ (11 + 3 * j)) = _; rw [h.e11 j hj]; rfl
  have e12 : conc σ (.sym (12 + 3 * j)) = .int .i64 (1 + s j % 3652059 : Nat) := by show concS (12 + 3 * j) (σ (12 + 3 * j)) = _; rw [h.e12 j hj]; rfl
  have hN : s j % 3652059 < 3652059 := Nat.mod_lt _ (by omega)
  intro r hr
  simp only [orDay, List.mem_cons, List.mem_nil_iff, or_false] at hr
  rcases hr with rfl | rfl | rfl | rfl
  · exact RowOK.rem .u32 (x := (s j : Int)) (y := ((3652059 : Nat) : Int)) e2 rfl e10 (by decide) (tmodN _ _)
  · refine RowOK.conv (u := tU32) (d := tDay) (k := .u32) (k' := .i64) (n := ((s j % 3652059 : Nat) : Int)) ?_ ?_ e10 ?_ (by decide)
    · unfold und; rw [ht]; kernel_rfl
    · unfold und; rw [ht]; kernel_rfl
    · show conc _ (.sym (11 + 3 * j)) = _
      rw [e11, wrap64_id (by omega) (by omega)]
  · exact RowOK.add64 (x := 1) (y := ((s j % 3652059 : Nat) : Int)) rfl e11 e12 (by omega) (by omega) (by omega)
  · exact RowOK.cmp .i64 (x := ((1 + s j % 3652059 : Nat) : Int)) (y := ((1 + s j % 3652059 : Nat) : Int)) e12 e12 (.inr (.inl ⟨rfl, by simp⟩))
theorem orNum_ok {E : Env} (ht : E.ty = E0.ty) {σ : Nat → Value} {b : Nat → Nat} (h : NumsOK σ b) {j : Nat} (hj : j < 2) : ∀ r ∈ orNum j, RowOK E 9 σ r := by
  have e5 : conc σ (.sym (5 + j)) = .int .u32 (b j) := by show concS (5 + j) (σ (5 + j)) = _; rw [h.e5 j hj]; rfl
  have e19 : conc σ (.sym (19 + j)) = .int .i64 (b j) := by show concS (19 + j) (σ (19 + j)) = _; rw [h.e19 j hj]; rfl
  have e24 : conc σ (.sym (24 + j)) = .str (nats (Lib.decDigits (b j))) := by show concS (24 + j) (σ (24 + j)) = _; rw [h.e24 j hj]; rfl
  have hb := h.bt j hj
  intro r hr
  simp only [orNum, List.mem_cons, List.mem_nil_iff, or_false] at hr
  rcases hr with rfl | rfl | rfl | rfl
  · refine RowOK.conv (u := tU32) (d := tInt) (k := .u32) (k' := .i64) (n := (b j : Int)) ?_ ?_ e5 ?_ (by decide)
    · unfold und; rw [ht]; kernel_rfl
    · unfold und; rw [ht]; kernel_rfl
    · show conc _ (.sym (19 + j)) = _
      rw [e19, wrap64_id (by omega) (by omega)]
  · exact RowOK.seq (p := nats (Lib.decDigits (b j))) (q := nats (Lib.decDigits (b j))) e24 e24 (.inl ⟨rfl, by simp⟩)
  · exact RowOK.cmp .i64 (x := (b j : Int)) (y := 0) e19 rfl (.inr (.inr (.inr (.inr (.inr ⟨rfl, by symm; rw [decide_eq_true_eq]; omega⟩)))))
  · exact RowOK.cmp .i64 (x := (b j : Int)) (y := (b j : Int)) e19 e19 (.inr (.inl ⟨rfl, by simp⟩))
theorem krDay_ok {σ : Nat → Value} {m : Int} (hm : σ kM = .int .i64 m) {s : Nat → Nat} {D : Nat → List UInt8} (h : DaysOK σ s D) {j : Nat} (hj : j < 3) : ∀ r ∈ krDay j, KRow Tryz.prog gl σ r.f r.args r.img tabV := by
  have e12 := h.e12 j hj
  have e21 := h.e21 j hj
  obtain ⟨y, mm, d, hd, e⟩ := h.dt j hj
  intro r hr
  simp only [krDay, List.mem_cons, List.mem_nil_iff, or_false] at hr
  rcases hr with rfl | rfl
  · exact KRow.ofV glOK gl_bareM hm rfl (va := #[.int .i64 (1 + s j % 3652059 : Nat)]) ⟨_, _, rfl, ⟨e12.symm, rfl⟩, rfl⟩ (.inl rfl) (u := strV (D j)) ⟨e21.symm, rfl⟩ (by rw [e]; exact (c_text hd).g)
  · exact KRow.ofV glOK gl_bareM hm rfl (va := #[strV (D j)]) ⟨_, _, rfl, ⟨e21.symm, rfl⟩, rfl⟩ (.inr ⟨_, rfl, rfl⟩) (u := .tuple #[.int .i64 (1 + s j % 3652059 : Nat), .bool true]) ⟨_, rfl, _, _, rfl, ⟨e12.symm, rfl⟩, _, _, rfl, rfl, rfl⟩ (by rw [e]; exact (c_parse hd).g)
theorem krNum_ok {σ : Nat → Value} {m : Int} (hm : σ kM = .int .i64 m) {b : Nat → Nat} (h : NumsOK σ b) {j : Nat} (hj : j < 2) : ∀ r ∈ krNum j, KRow Tryz.prog gl σ r.f r.args r.img tabV := by
  have e19 := h.e19 j hj
  have e24 := h.e24 j hj
  have hb := h.bt j hj
  intro r hr
  simp only [krNum, List.mem_cons, List.mem_nil_iff, or_false] at hr
  rcases hr with rfl | rfl
  · exact KRow.ofV glOK gl_bareM hm rfl (va := #[.int .i64 (b j : Nat)]) ⟨_, _, rfl, ⟨e19.symm, rfl⟩, rfl⟩ (.inl rfl) (u := strV (Lib.decDigits (b j))) ⟨e24.symm, rfl⟩ (c_itoa (b j) (by omega)).g
  · exact KRow.ofV glOK gl_bareM hm rfl (va := #[strV (Lib.decDigits (b j))]) ⟨_, _, rfl, ⟨e24.symm, rfl⟩, rfl⟩ (.inr ⟨_, rfl, rfl⟩) (u := .tuple #[.int .i64 (b j : Nat), .nilIface]) ⟨_, rfl, _, _, rfl, ⟨e19.symm, rfl⟩, _, _, rfl, rfl, rfl⟩
      (c_atoi (Lib.decDigits (b j)) _ (by have := (dec_ok hb).2; omega) (by
        have := atoi_pad (u := b j) (Nat.le_refl (Lib.nDigits (b j))) (by have := nDigits_le 9 (b j) (by omega); omega)
        rwa [pad_self] at this)).g
/-- Fields joined by blanks. -/
theorem jrow_ok {σ : Nat → Value} {t : List UInt8} {z i : Nat} {l : List AV} {fs : List (List UInt8)} (hf : Flds σ l fs) (hz : σ z = strV t) (hi : σ i = strV (tailS fs t)) (hn : fs.length ≤ 100) (hl : (tailS fs t).length ≤ 10000) : JRow Tryz.prog σ fJoin ⟨#[32]⟩ ⟨l ++ [.sym z], .sym i⟩ := by
  have eS : Lib.join ((((fs ++ [t]).map fun l => (⟨l.toArray⟩ : ByteArray))).map (·.data.toList)) [32] = tailS fs t := by
    rw [List.map_map, show ((fun x : ByteArray => x.data.toList) ∘ fun l : List UInt8 => (⟨l.toArray⟩ : ByteArray)) = id from rfl, List.map_id]
    exact join_tail fs t
  refine ⟨by rw [List.all_append, Flds.tell hf]; rfl, rfl, (fs ++ [t]).map fun l => (⟨l.toArray⟩ : ByteArray), strV (tailS fs t), ?_, ⟨hi.symm, rfl⟩, ?_⟩
  · rw [List.map_map]
    exact Flds.vals (a := .sym z) ⟨hz.symm, rfl⟩ hf
  · intro bk o cp w hcells hbk hcap
    refine (Tryz.strings_Join bk o cp _ ⟨#[32]⟩ w hcells hbk (by rw [List.length_map, List.length_append]; show fs.length + 1 ≤ _; omega) hcap (by show (Lib.join _ [32]).length ≤ _; rw [eS]; omega)).mono ?_
    rintro e w' ⟨rfl, hB⟩
    refine ⟨?_, hB⟩
    show Ending.returned (.string ⟨(Lib.join _ [32]).toArray⟩) = _
    rw [eS]; rfl
end
end Go.Proofs.YtnnhijfbdkokkaaGreatDoor
