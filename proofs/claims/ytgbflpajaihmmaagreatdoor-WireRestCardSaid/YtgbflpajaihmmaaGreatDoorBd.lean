/- A request's bytes: how they are cut, joined, and written: plain laws, and the rows they give. A request's bytes: what the symbols stand for, and that the rows are so. A request's bytes: the rows of the run, and what it comes to. No condition. -/
import Derived.Test.YtgbflpajaihmmaaGreatDoorBa
import Derived.Test.YtgbflpajaihmmaaGreatDoorLg
/-! A request's bytes: how they are cut, joined, and written: plain laws, and the rows they give. -/
namespace Go.Proofs.YtgbflpajaihmmaaGreatDoor
open Go Go.Eng Go.RowKit
noncomputable section
set_option maxRecDepth 100000

/-! ### Plain laws -/
def tailS : List (List UInt8) → List UInt8 → List UInt8
  | [], t => t
  | f :: fs, t => f ++ 32 :: tailS fs t
theorem indexByte_at : ∀ (a b : List UInt8), 32 ∉ a → Lib.indexByte (a ++ 32 :: b) 32 = (a.length : Int)
  | [], _, _ => rfl
  | x :: a, b, h => by
    have hx : x ≠ 32 := fun e => h (by simp [e])
    have ih := indexByte_at a b (fun e => h (by simp [e]))
    have hn : (x == (32 : UInt8)) = false := by rw [beq_eq_false_iff_ne]; exact hx
    rw [List.cons_append]
    unfold Lib.indexByte
    rw [hn, ih]
    simp only [Bool.false_eq_true, if_false]
    rw [if_neg (by rw [beq_iff_eq]; omega)]
    rw [List.length_cons]; omega
theorem cut_at (a b : List UInt8) (h : 32 ∉ a) : Lib.cut (a ++ 32 :: b) [32] = (a, b, true) := by
  unfold Lib.cut
  rw [Lib.index_one, indexByte_at a b h, if_pos (by omega)]
  rw [Int.toNat_natCast, List.take_left, List.length_singleton, List.drop_append, List.drop_of_length_le (by omega), show a.length + 1 - a.length = 1 by omega]; rfl
theorem join_tail : ∀ (fs : List (List UInt8)) (t : List UInt8), Lib.join (fs ++ [t]) [32] = tailS fs t
  | [], t => Lib.join_one t [32]
  | [f], t => by
    rw [List.cons_append, Lib.join_cons, List.nil_append]
    show f ++ (([t]).map ([32] ++ ·)).flatten = _
    simp [tailS]
  | f :: g :: fs, t => by
    have ih := join_tail (g :: fs) t
    rw [List.cons_append, Lib.join_cons] at ih ⊢
    rw [List.cons_append]
    show f ++ (((g :: (fs ++ [t])).map ([32] ++ ·))).flatten = f ++ 32 :: tailS (g :: fs) t
    rw [← ih, List.map_cons, List.flatten_cons]
    rfl
theorem tailS_len : ∀ (fs : List (List UInt8)) (t : List UInt8) (n : Nat), (∀ f ∈ fs, f.length ≤ n) → (tailS fs t).length ≤ fs.length * (n + 1) + t.length
  | [], _, _, _ => by simp [tailS]
  | f :: fs, t, n, h => by
    have ih := tailS_len fs t n (fun g hg => h g (by simp [hg]))
    have h1 := h f (by simp)
    show (f ++ 32 :: tailS fs t).length ≤ _
    rw [List.length_append, List.length_cons, List.length_cons, Nat.add_mul]; omega

/-! ### Contracts under all the variables -/
abbrev CG (f : FuncId) (va : Array Value) (u : Value) : Prop := CallsV Tryz.prog gl f va u tabV
theorem CW.g {f : FuncId} {va : Array Value} {u : Value} (h : CW f va u) : CG f va u := fun w hw => h w (varsC hw)
theorem c_cut {a b : List UInt8} (h : 32 ∉ a) (hl : (a ++ 32 :: b).length < 4294967281) : CG 52 #[strV (a ++ 32 :: b), strV [32]] (.tuple #[strV a, strV b, .bool true]) := by
  intro w ⟨m, hm⟩ _
  obtain ⟨ρ, hR⟩ := hm (fun _ => .int .i64 m) rfl
  refine (Tryz.strings_Cut ⟨(a ++ 32 :: b).toArray⟩ ⟨#[32]⟩ m w (by show (a ++ 32 :: b).toArray.size < _; rw [List.size_toArray]; exact hl) (maxLen_cell hR gl_has rfl)).mono ?_
  rintro e w' ⟨rfl, k, rfl⟩
  refine ⟨?_, Go.Joins.below_draws _ _ _⟩
  show Ending.returned (.tuple #[.string ⟨(Lib.cut (a ++ 32 :: b) [32]).1.toArray⟩, .string ⟨(Lib.cut (a ++ 32 :: b) [32]).2.1.toArray⟩, .bool (Lib.cut (a ++ 32 :: b) [32]).2.2]) = _
  rw [cut_at a b h]; rfl

/-! ### Rows -/
/-- What a field's value stands for. -/
def Fld (σ : Nat → Value) (a : AV) (f : List UInt8) : Prop := conc σ a = .str (nats f) ∧ plainA a = true ∧ tells a = true ∧ 32 ∉ f ∧ VR (fun _ => none) σ a (strV f)
def Flds (σ : Nat → Value) : List AV → List (List UInt8) → Prop
  | [], [] => True
  | a :: l, f :: fs => Fld σ a f ∧ Flds σ l fs
  | _, _ => False
theorem Fld.str {σ : Nat → Value} {f : List UInt8} (h : 32 ∉ f) : Fld σ (.str (nats f)) f := ⟨rfl, rfl, rfl, h, ⟨_, rfl, rfl⟩⟩
theorem Fld.sym {σ : Nat → Value} {i : Nat} {f : List UInt8} (h : 32 ∉ f) (e : σ i = strV f) : Fld σ (.sym i) f := ⟨by show concS i (σ i) = _; rw [e]; rfl, rfl, rfl, h, ⟨e.symm, rfl⟩⟩

def cutV : List (List UInt8) → List UInt8 → List Value
  | [], t => [strV t]
  | f :: fs, t => strV (tailS (f :: fs) t) :: cutV fs t
def outV : List UInt8 → List (List UInt8) → List Value
  | _, [] => []
  | p, f :: fs => strV (p ++ f) :: strV ((p ++ f) ++ [32]) :: outV ((p ++ f) ++ [32]) fs

theorem krCuts_ok {σ : Nat → Value} {m : Int} (hm : σ kM = .int .i64 m) {t : List UInt8} {z : Nat} (h7 : σ z = strV t) : ∀ (l : List AV) (fs : List (List UInt8)) (i : Nat), Flds σ l fs → (∀ j, j < fs.length → σ (i + j) = strV (tailS (fs.drop j) t)) → (tailS fs t).length < 4294967281 →
    ∀ r ∈ krCuts z i l, KRow Tryz.prog gl σ r.f r.args r.img tabV
  | [], _, _, _, _, _, r, hr => by cases hr
  | a :: l, [], _, h, _, _, _, _ => h.elim
  | a :: l, f :: fs, i, ⟨hf, hl⟩, hσ, hlen, r, hr => by
    have hi : σ i = strV (f ++ 32 :: tailS fs t) := hσ 0 (by simp)
    have hfl : (f ++ 32 :: tailS fs t).length < 4294967281 := hlen
    rcases List.mem_cons.1 hr with rfl | hr
    · have key : ∀ nx : AV, plainA nx = true → VR (fun _ => none) σ nx (strV (tailS fs t)) → KRow Tryz.prog gl σ 52 [.sym i, .str [32]] ⟨.tuple [a, nx, .bool true], []⟩ tabV := fun nx hp hv =>
        KRow.ofV glOK gl_bareM hm rfl (va := #[strV (f ++ 32 :: tailS fs t), strV [32]]) ⟨_, _, rfl, ⟨hi.symm, rfl⟩, _, _, rfl, ⟨_, rfl, rfl⟩, rfl⟩ (.inr ⟨_, rfl, by simp [hf.2.1, hp]; rfl⟩) (u := .tuple #[strV f, strV (tailS fs t), .bool true]) ⟨_, rfl, _, _, rfl, hf.2.2.2.2, _, _, rfl, hv, _, _, rfl, rfl, rfl⟩ (c_cut hf.2.2.2.1 hfl)
      cases l with
      | nil =>
        cases fs with
        | nil => exact key (.sym z) rfl ⟨h7.symm, rfl⟩
        | cons _ _ => exact hl.elim
      | cons b l =>
        cases fs with
        | nil => exact hl.elim
        | cons g fs =>
          have := hσ 1 (by simp)
          exact key (.sym (i + 1)) rfl ⟨this.symm, rfl⟩
    · have hll : (f ++ 32 :: tailS fs t).length = f.length + ((tailS fs t).length + 1) := by rw [List.length_append, List.length_cons]
      refine krCuts_ok hm h7 l fs (i + 1) hl (fun j hj => ?_) (by omega) r hr
      have := hσ (j + 1) (by simp; omega)
      rw [show i + 1 + j = i + (j + 1) by omega]; exact this

theorem orOut_ok {E : Env} {σ : Nat → Value} {t S : List UInt8} (h7 : σ 7 = strV t) (h31 : σ 31 = strV S) (hS : S.length < 100000) : ∀ (l : List AV) (fs : List (List UInt8)) (i : Nat) (a : AV) (p : List UInt8), Flds σ l fs → conc σ a = .str (nats p) → p ++ tailS fs t = S →
    (∀ j v, (outV p fs)[j]? = some v → σ (i + j) = v) → ∀ r ∈ orOut i a l, RowOK E 9 σ r
  | [], [], i, a, p, _, ha, e, _, r, hr => by
    have hr : r = ⟨0, [a, .sym 7], .sym 31⟩ := by simpa [orOut] using hr
    subst hr
    refine RowOK.cat (p := nats p) (q := nats t) (r := nats S) ha (by show concS 7 (σ 7) = _; rw [h7]; rfl) (by show concS 31 (σ 31) = _; rw [h31]; rfl) ?_ (by rw [nats_len]; omega)
    rw [← nats_append]; exact congrArg nats e
  | [], _ :: _, _, _, _, h, _, _, _, _, _ => h.elim
  | _ :: _, [], _, _, _, h, _, _, _, _, _ => h.elim
  | b :: l, f :: fs, i, a, p, ⟨hf, hl⟩, ha, e, hσ, r, hr => by
    have hr : r = ⟨0, [a, b], .sym i⟩ ∨ r = ⟨0, [.sym i, .str [32]], .sym (i + 1)⟩ ∨ r ∈ orOut (i + 1 + 1) (.sym (i + 1)) l := by simpa [orOut] using hr
    have e0 : σ i = strV (p ++ f) := hσ 0 _ rfl
    have e1 : σ (i + 1) = strV ((p ++ f) ++ [32]) := hσ 1 _ rfl
    have c0 : conc σ (.sym i) = .str (nats (p ++ f)) := by show concS i (σ i) = _; rw [e0]; rfl
    have c1 : conc σ (.sym (i + 1)) = .str (nats ((p ++ f) ++ [32])) := by show concS (i + 1) (σ (i + 1)) = _; rw [e1]; rfl
    have eS : ((p ++ f) ++ [32]) ++ tailS fs t = S := by
      rw [← e]
      show _ = p ++ (f ++ 32 :: tailS fs t)
      simp
    have hlen : ((p ++ f) ++ [32]).length < 100000 := by
      have : (((p ++ f) ++ [32]) ++ tailS fs t).length < 100000 := by rw [eS]; exact hS
      rw [List.length_append] at this; omega
    rcases hr with rfl | rfl | hr
    · exact RowOK.cat (p := nats p) (q := nats f) (r := nats (p ++ f)) ha hf.1 c0 (nats_append p f).symm (by rw [nats_len]; rw [List.length_append] at hlen; omega)
    · exact RowOK.cat (p := nats (p ++ f)) (q := [32]) (r := nats ((p ++ f) ++ [32])) c0 rfl c1 (nats_append (p ++ f) [32]).symm (by rw [nats_len]; omega)
    · exact orOut_ok h7 h31 hS l fs (i + 1 + 1) (.sym (i + 1)) ((p ++ f) ++ [32]) hl c1 eS (fun j v hj => by rw [show i + 1 + 1 + j = i + (j + 2) by omega]; exact hσ (j + 2) v hj) r hr
end
end Go.Proofs.YtgbflpajaihmmaaGreatDoor

/-! A request's bytes: what the symbols stand for, and that the rows are so. -/
namespace Go.Proofs.YtgbflpajaihmmaaGreatDoor
open Go Go.Eng Go.RowKit
noncomputable section
set_option maxRecDepth 100000

def words8 : List (List UInt8) := [[112, 97, 114, 115, 101], [100, 101, 115, 99, 114, 105, 98, 101], [112, 114, 101, 118, 105, 101, 119], [99, 104, 101, 99, 107]]
def locales8 : List (List UInt8) := [[101, 110], [100, 101], [102, 114], [112, 108], [120, 120], [255]]
def wd (k : Nat) : List UInt8 := pick [] words8 k
def lo (l : Nat) : List UInt8 := pick [] locales8 l
theorem wd_nats {k : Nat} (h : k < 4) : nats (wd k) = pick [] wordsB k := by
  match k, h with
  | 0, _ => rfl
  | 1, _ => rfl
  | 2, _ => rfl
  | 3, _ => rfl
theorem lo_nats {l : Nat} (h : l < 6) : nats (lo l) = pick [] localesB l := by
  match l, h with
  | 0, _ => rfl
  | 1, _ => rfl
  | 2, _ => rfl
  | 3, _ => rfl
  | 4, _ => rfl
  | 5, _ => rfl
theorem wd_ok {k : Nat} (h : k < 4) : 32 ∉ wd k ∧ (wd k).length ≤ 10 := by
  have : ∀ k, k < 4 → 32 ∉ wd k ∧ (wd k).length ≤ 10 := by decide
  exact this k h
theorem lo_ok {l : Nat} (h : l < 6) : 32 ∉ lo l ∧ (lo l).length ≤ 10 := by
  have : ∀ l, l < 6 → 32 ∉ lo l ∧ (lo l).length ≤ 10 := by decide
  exact this l h

/-- What a request is made of. -/
structure Ctx where
  a0 : Nat
  a1 : Nat
  s : Nat → Nat
  b : Nat → Nat
  D : Nat → List UInt8
  t : List UInt8
  mo : List UInt8
namespace Ctx
variable (c : Ctx)
def k : Nat := c.a0 % 4
def l : Nat := c.a1 % 6
def N (j : Nat) : List UInt8 := Lib.decDigits (c.b j)
def F : List (List UInt8) := pick [] [[wd 0, lo c.l, c.D 0], [wd 1, lo c.l], [wd 2, lo c.l, c.D 0, c.D 1, c.D 2, c.N 0, c.N 1], [wd 3]] c.k
def Pr : List UInt8 := pick [] [wd 0 ++ 32 :: (lo c.l ++ [32]), wd 1 ++ 32 :: (lo c.l ++ [32]), wd 2 ++ 32 :: (lo c.l ++ [32]), wd 3 ++ [32]] c.k
def Fs : List (List UInt8) := pick [] [[c.D 0], [], [c.D 0, c.D 1, c.D 2, c.N 0, c.N 1], []] c.k
/-- Its bytes. -/
def S : List UInt8 := tailS c.F c.t
def day (j : Nat) : Nat := 1 + c.s j % 3652059
def base : List Value := [.int .u8 c.a0, .int .u8 c.a1, .int .u32 (c.s 0), .int .u32 (c.s 1), .int .u32 (c.s 2), .int .u32 (c.b 0), .int .u32 (c.b 1), strV c.t, strV c.mo, strV (c.t ++ c.mo),
  .int .u32 (c.s 0 % 3652059 : Nat), .int .i64 (c.s 0 % 3652059 : Nat), .int .i64 (c.day 0 : Nat), .int .u32 (c.s 1 % 3652059 : Nat), .int .i64 (c.s 1 % 3652059 : Nat), .int .i64 (c.day 1 : Nat), .int .u32 (c.s 2 % 3652059 : Nat), .int .i64 (c.s 2 % 3652059 : Nat), .int .i64 (c.day 2 : Nat),
  .int .i64 (c.b 0), .int .i64 (c.b 1), strV (c.D 0), strV (c.D 1), strV (c.D 2), strV (c.N 0), strV (c.N 1), .int .i64 (c.mo.length : Nat), .int .i64 ((c.S ++ c.mo).length : Nat), .int .i64 (c.S.length : Nat), .int .i64 (c.t.length : Nat), .int .i64 (c.t.length + c.mo.length : Nat)]
def sg (i : Nat) : Value := Bool.rec (motive := fun _ => Value) (Bool.rec (motive := fun _ => Value) (Bool.rec (motive := fun _ => Value) ((cutV c.F (c.t ++ c.mo)).getD (i - 70) .nilIface) ((outV c.Pr c.Fs).getD (i - 50) .nilIface) (Nat.blt i 70)) ((cutV c.F c.t).getD (i - 31) .nilIface) (Nat.blt i 50)) (pick .nilIface c.base i) (Nat.blt i 31)
/-- The request is one that may be made. -/
structure OK : Prop where
  dt : ∀ j, j < 3 → ∃ y mm d, Dated (c.day j) y mm d ∧ c.D j = dayT y mm d
  bt : ∀ j, j < 2 → c.b j < 4294967296
  tt : c.t.length ≤ 500
variable {c} {m : Int}
theorem k4 : c.k < 4 := Nat.mod_lt _ (by omega)
theorem l6 : c.l < 6 := Nat.mod_lt _ (by omega)
theorem cutV_at (t : List UInt8) : ∀ (fs : List (List UInt8)) (j : Nat), j ≤ fs.length → (cutV fs t)[j]? = some (strV (tailS (fs.drop j) t))
  | [], 0, _ => rfl
  | [], j + 1, h => by simp at h
  | f :: fs, 0, _ => rfl
  | f :: fs, j + 1, h => by
    show (cutV fs t)[j]? = _
    exact cutV_at t fs j (by simpa using h)
theorem outV_len : ∀ (fs : List (List UInt8)) (p : List UInt8), (outV p fs).length = 2 * fs.length
  | [], _ => rfl
  | f :: fs, p => by
    show (outV _ fs).length + 1 + 1 = _
    rw [outV_len fs, List.length_cons]; omega
theorem sg_lt {i : Nat} (h : i < 31) : withM c.sg m i = pick .nilIface c.base i := by
  rw [withM_ne (by omega)]
  unfold sg
  have : Nat.blt i 31 = true := by rw [blt_iff]; exact decide_eq_true h
  rw [this]
theorem F_len : c.F.length ≤ 7 := by
  unfold F
  have := c.k4
  match h : c.k, this with
  | 0, _ => show 3 ≤ 7; omega
  | 1, _ => show 2 ≤ 7; omega
  | 2, _ => show 7 ≤ 7; omega
  | 3, _ => show 1 ≤ 7; omega
theorem sg_cut {j : Nat} (h : j ≤ c.F.length) : withM c.sg m (31 + j) = strV (tailS (c.F.drop j) c.t) := by
  have := c.F_len
  rw [withM_ne (by omega)]
  unfold sg
  have h1 : Nat.blt (31 + j) 31 = false := by rw [blt_iff]; exact decide_eq_false (by omega)
  have h2 : Nat.blt (31 + j) 50 = true := by rw [blt_iff]; exact decide_eq_true (by omega)
  rw [h1, h2]
  show (cutV c.F c.t).getD (31 + j - 31) .nilIface = _
  rw [List.getD_eq_getElem?_getD, show 31 + j - 31 = j by omega, cutV_at c.t c.F j h]; rfl
theorem Fs_len : c.Fs.length ≤ 5 := by
  unfold Fs
  have := c.k4
  match h : c.k, this with
  | 0, _ => show 1 ≤ 5; omega
  | 1, _ => show 0 ≤ 5; omega
  | 2, _ => show 5 ≤ 5; omega
  | 3, _ => show 0 ≤ 5; omega
theorem sg_out {j : Nat} {v : Value} (h : (outV c.Pr c.Fs)[j]? = some v) : withM c.sg m (50 + j) = v := by
  have h5 := c.Fs_len
  have hj : j < (outV c.Pr c.Fs).length := by
    rcases Nat.lt_or_ge j (outV c.Pr c.Fs).length with hl | hl
    · exact hl
    · rw [List.getElem?_eq_none hl] at h; cases h
  rw [outV_len] at hj
  rw [withM_ne (by omega)]
  unfold sg
  have h1 : Nat.blt (50 + j) 31 = false := by rw [blt_iff]; exact decide_eq_false (by omega)
  have h2 : Nat.blt (50 + j) 50 = false := by rw [blt_iff]; exact decide_eq_false (by omega)
  have h3 : Nat.blt (50 + j) 70 = true := by rw [blt_iff]; exact decide_eq_true (by omega)
  rw [h1, h2, h3]
  show (outV c.Pr c.Fs).getD (50 + j - 50) .nilIface = _
  rw [List.getD_eq_getElem?_getD, show 50 + j - 50 = j by omega, h]; rfl
theorem sg_cut2 {j : Nat} (h : j ≤ c.F.length) : withM c.sg m (70 + j) = strV (tailS (c.F.drop j) (c.t ++ c.mo)) := by
  have := c.F_len
  rw [withM_ne (by omega)]
  unfold sg
  have h1 : Nat.blt (70 + j) 31 = false := by rw [blt_iff]; exact decide_eq_false (by omega)
  have h2 : Nat.blt (70 + j) 50 = false := by rw [blt_iff]; exact decide_eq_false (by omega)
  have h3 : Nat.blt (70 + j) 70 = false := by rw [blt_iff]; exact decide_eq_false (by omega)
  rw [h1, h2, h3]
  show (cutV c.F (c.t ++ c.mo)).getD (70 + j - 70) .nilIface = _
  rw [List.getD_eq_getElem?_getD, show 70 + j - 70 = j by omega, cutV_at (c.t ++ c.mo) c.F j h]; rfl
theorem tailS_app (t u : List UInt8) : ∀ fs : List (List UInt8), tailS fs (t ++ u) = tailS fs t ++ u
  | [] => rfl
  | f :: fs => by
    show f ++ 32 :: tailS fs (t ++ u) = (f ++ 32 :: tailS fs t) ++ u
    rw [tailS_app t u fs]; simp
theorem sg70 : withM c.sg m 70 = strV (c.S ++ c.mo) := by
  rw [show (70 : Nat) = 70 + 0 from rfl, sg_cut2 (Nat.zero_le _), List.drop_zero, tailS_app]; rfl
theorem sg8 : withM c.sg m 8 = strV c.mo := sg_lt (by omega)
theorem sg9 : withM c.sg m 9 = strV (c.t ++ c.mo) := sg_lt (by omega)
theorem sg31 : withM c.sg m 31 = strV c.S := sg_cut (c := c) (j := 0) (Nat.zero_le _)
theorem sg7 : withM c.sg m 7 = strV c.t := sg_lt (by omega)

section
variable (h : c.OK)
include h
theorem D_ok {j : Nat} (hj : j < 3) : 32 ∉ c.D j ∧ (c.D j).length ≤ 10 := by
  obtain ⟨y, mm, d, hd, e⟩ := h.dt j hj
  rw [e]
  refine ⟨fun hm => ?_, Nat.le_of_eq hd.l10⟩
  unfold dayT at hm
  simp only [List.mem_append, List.mem_singleton] at hm
  have hp : ∀ {u size : Nat}, 32 ∈ pad u size → False := fun hq => by have := (pad_all _ _ 32 hq).1; revert this; decide
  rcases hm with (((hm | hm) | hm) | hm) | hm
  · exact hp hm
  · revert hm; decide
  · exact hp hm
  · revert hm; decide
  · exact hp hm
theorem N_ok {j : Nat} (hj : j < 2) : 32 ∉ c.N j ∧ (c.N j).length ≤ 10 := by
  refine ⟨fun hm => ?_, ?_⟩
  · have := (digits_all _ 32 hm).1; revert this; decide
  · unfold N
    rw [Lib.decDigits_length]
    exact nDigits_le 9 _ (by have := h.bt j hj; omega)
theorem F_ok : ∀ f ∈ c.F, f.length ≤ 10 := by
  unfold F
  have := c.k4
  intro f hf
  match hk : c.k, this with
  | 0, _ =>
    rw [hk] at hf
    have hf : f ∈ [wd 0, lo c.l, c.D 0] := hf
    simp only [List.mem_cons, List.mem_nil_iff, or_false] at hf
    rcases hf with rfl | rfl | rfl
    · exact (wd_ok (by omega)).2
    · exact (lo_ok l6).2
    · exact (D_ok h (by omega)).2
  | 1, _ =>
    rw [hk] at hf
    have hf : f ∈ [wd 1, lo c.l] := hf
    simp only [List.mem_cons, List.mem_nil_iff, or_false] at hf
    rcases hf with rfl | rfl
    · exact (wd_ok (by omega)).2
    · exact (lo_ok l6).2
  | 2, _ =>
    rw [hk] at hf
    have hf : f ∈ [wd 2, lo c.l, c.D 0, c.D 1, c.D 2, c.N 0, c.N 1] := hf
    simp only [List.mem_cons, List.mem_nil_iff, or_false] at hf
    rcases hf with rfl | rfl | rfl | rfl | rfl | rfl | rfl
    · exact (wd_ok (by omega)).2
    · exact (lo_ok l6).2
    · exact (D_ok h (by omega)).2
    · exact (D_ok h (by omega)).2
    · exact (D_ok h (by omega)).2
    · exact (N_ok h (by omega)).2
    · exact (N_ok h (by omega)).2
  | 3, _ =>
    rw [hk] at hf
    have hf : f ∈ [wd 3] := hf
    simp only [List.mem_cons, List.mem_nil_iff, or_false] at hf
    subst hf
    exact (wd_ok (by omega)).2
theorem S_len : c.S.length ≤ 600 := by
  have h1 := tailS_len c.F c.t 10 (F_ok h)
  have h2 := c.F_len
  have h3 := h.tt
  unfold S
  have : c.F.length * 11 ≤ 7 * 11 := Nat.mul_le_mul_right _ h2
  omega
theorem fD {j : Nat} (hj : j < 3) : Fld (withM c.sg m) (.sym (21 + j)) (c.D j) := by
  refine Fld.sym (D_ok h hj).1 ?_
  rw [sg_lt (by omega)]
  match j, hj with
  | 0, _ => rfl
  | 1, _ => rfl
  | 2, _ => rfl
theorem fN {j : Nat} (hj : j < 2) : Fld (withM c.sg m) (.sym (24 + j)) (c.N j) := by
  refine Fld.sym (N_ok h hj).1 ?_
  rw [sg_lt (by omega)]
  match j, hj with
  | 0, _ => rfl
  | 1, _ => rfl
end
theorem fW {k : Nat} (hk : k < 4) : Fld (withM c.sg m) (wordA k) (wd k) := by
  unfold wordA; rw [← wd_nats hk]; exact Fld.str (wd_ok hk).1
theorem fL {l : Nat} (hl : l < 6) : Fld (withM c.sg m) (locA l) (lo l) := by
  unfold locA; rw [← lo_nats hl]; exact Fld.str (lo_ok hl).1
theorem flds (h : c.OK) : Flds (withM c.sg m) (fieldsA c.k c.l) c.F := by
  unfold F
  have := c.k4
  match hk : c.k, this with
  | 0, _ => exact ⟨fW (by omega), fL l6, fD h (j := 0) (by omega), trivial⟩
  | 1, _ => exact ⟨fW (by omega), fL l6, trivial⟩
  | 2, _ => exact ⟨fW (by omega), fL l6, fD h (j := 0) (by omega), fD h (j := 1) (by omega), fD h (j := 2) (by omega), fN h (j := 0) (by omega), fN h (j := 1) (by omega), trivial⟩
  | 3, _ => exact ⟨fW (by omega), trivial⟩
theorem outs (h : c.OK) : Flds (withM c.sg m) (outsA c.k) c.Fs := by
  unfold Fs
  have := c.k4
  match hk : c.k, this with
  | 0, _ => exact ⟨fD h (j := 0) (by omega), trivial⟩
  | 1, _ => exact trivial
  | 2, _ => exact ⟨fD h (j := 0) (by omega), fD h (j := 1) (by omega), fD h (j := 2) (by omega), fN h (j := 0) (by omega), fN h (j := 1) (by omega), trivial⟩
  | 3, _ => exact trivial
theorem pre_nats : nats c.Pr = preA c.k c.l := by
  unfold Pr
  have h2 : ∀ k, k < 4 → nats (wd k ++ 32 :: (lo c.l ++ [32])) = pick [] wordsB k ++ 32 :: (pick [] localesB c.l ++ [32]) := fun k hk => by
    rw [nats_append, wd_nats hk]
    show _ ++ 32 :: nats (lo c.l ++ [32]) = _
    rw [nats_append, lo_nats l6]; rfl
  have := c.k4
  match hk : c.k, this with
  | 0, _ => exact h2 0 (by omega)
  | 1, _ => exact h2 1 (by omega)
  | 2, _ => exact h2 2 (by omega)
  | 3, _ => rfl
theorem pre_S : c.Pr ++ tailS c.Fs c.t = c.S := by
  unfold Pr Fs S F
  have := c.k4
  match hk : c.k, this with
  | 0, _ => show (wd 0 ++ 32 :: (lo c.l ++ [32])) ++ tailS [c.D 0] c.t = wd 0 ++ 32 :: (lo c.l ++ 32 :: tailS [c.D 0] c.t); simp
  | 1, _ => show (wd 1 ++ 32 :: (lo c.l ++ [32])) ++ c.t = wd 1 ++ 32 :: (lo c.l ++ 32 :: c.t); simp
  | 2, _ => show (wd 2 ++ 32 :: (lo c.l ++ [32])) ++ tailS [c.D 0, c.D 1, c.D 2, c.N 0, c.N 1] c.t = wd 2 ++ 32 :: (lo c.l ++ 32 :: tailS [c.D 0, c.D 1, c.D 2, c.N 0, c.N 1] c.t); simp
  | 3, _ => show (wd 3 ++ [32]) ++ c.t = wd 3 ++ 32 :: c.t; simp
end Ctx
end
end Go.Proofs.YtgbflpajaihmmaaGreatDoor

/-! A request's bytes: the rows of the run, and what it comes to. -/
namespace Go.Proofs.YtgbflpajaihmmaaGreatDoor
open Go Go.Eng Go.RowKit
noncomputable section
set_option maxRecDepth 100000

theorem catR_mem {r : OR} : ∀ {l : List (List OR)}, r ∈ catR l → ∃ x ∈ l, r ∈ x
  | [], h => by cases h
  | x :: l, h => by
    have h : r ∈ x ++ catR l := h
    rcases List.mem_append.1 h with h | h
    · exact ⟨x, by simp, h⟩
    · obtain ⟨y, hy, h⟩ := catR_mem h
      exact ⟨y, by simp [hy], h⟩
theorem catK_mem {r : KR} : ∀ {l : List (List KR)}, r ∈ catK l → ∃ x ∈ l, r ∈ x
  | [], h => by cases h
  | x :: l, h => by
    have h : r ∈ x ++ catK l := h
    rcases List.mem_append.1 h with h | h
    · exact ⟨x, by simp, h⟩
    · obtain ⟨y, hy, h⟩ := catK_mem h
      exact ⟨y, by simp [hy], h⟩
theorem days3 {k j : Nat} (hk : k < 4) (h : j ∈ daysOf k) : j < 3 := by
  have : ∀ k, k < 4 → ∀ j ∈ daysOf k, j < 3 := by decide
  exact this k hk j h
theorem nums2 {k j : Nat} (hk : k < 4) (h : j ∈ numsOf k) : j < 2 := by
  have : ∀ k, k < 4 → ∀ j ∈ numsOf k, j < 2 := by decide
  exact this k hk j h
theorem tmodN (a b : Nat) : ((a : Int)).tmod (b : Int) = ((a % b : Nat) : Int) := (Int.ofNat_tmod a b).symm
theorem pad_self (u : Nat) : pad u (Lib.nDigits u) = Lib.decDigits u := by
  unfold pad zeros
  rw [Nat.sub_self]; rfl

section
variable {c : Ctx} (h : c.OK) {m : Int} {E : Env} (ht : E.ty = E0.ty)
include h ht
omit h in
theorem orDay_ok {j : Nat} (hj : j < 3) : ∀ r ∈ orDay j, RowOK E 9 (withM c.sg m) r := by
  have e2 : conc (withM c.sg m) (.sym (2 + j)) = .int .u32 (c.s j) := by
    show concS (2 + j) (withM c.sg m (2 + j)) = _
    rw [Ctx.sg_lt (by omega)]
    match j, hj with
    | 0, _ => rfl
    | 1, _ => rfl
    | 2, _ => rfl
  have e10 : conc (withM c.sg m) (.sym (10 + 3 * j)) = .int .u32 (c.s j % 3652059 : Nat) := by
    show concS (10 + 3 * j) (withM c.sg m (10 + 3 * j)) = _
    rw [Ctx.sg_lt (by omega)]
    match j, hj with
    | 0, _ => rfl
    | 1, _ => rfl
    | 2, _ => rfl
  have e11 : conc (withM c.sg m) (.sym (11 + 3 * j)) = .int .i64 (c.s j % 3652059 : Nat) := by
    show concS (11 + 3 * j) (withM c.sg m (11 + 3 * j)) = _
    rw [Ctx.sg_lt (by omega)]
    match j, hj with
    | 0, _ => rfl
    | 1, _ => rfl
    | 2, _ => rfl
  have e12 : conc (withM c.sg m) (.sym (12 + 3 * j)) = .int .i64 (c.day j : Nat) := by
    show concS (12 + 3 * j) (withM c.sg m (12 + 3 * j)) = _
    rw [Ctx.sg_lt (by omega)]
    match j, hj with
    | 0, _ => rfl
    | 1, _ => rfl
    | 2, _ => rfl
  have hN : c.s j % 3652059 < 3652059 := Nat.mod_lt _ (by omega)
  intro r hr
  simp only [orDay, List.mem_cons, List.mem_nil_iff, or_false] at hr
  rcases hr with rfl | rfl | rfl | rfl
  · exact RowOK.rem .u32 (x := (c.s j : Int)) (y := ((3652059 : Nat) : Int)) e2 rfl e10 (by decide) (tmodN _ _)
  · refine RowOK.conv (u := 27) (d := 28) (k := .u32) (k' := .i64) (n := ((c.s j % 3652059 : Nat) : Int)) ?_ ?_ e10 ?_ (by omega)
    · unfold und; rw [ht]; kernel_rfl
    · unfold und; rw [ht]; kernel_rfl
    · show conc _ (.sym (11 + 3 * j)) = _
      rw [e11, wrap64_id (by omega) (by omega)]
  · exact RowOK.add64 (x := 1) (y := ((c.s j % 3652059 : Nat) : Int)) rfl e11 e12 (by unfold Ctx.day; omega) (by omega) (by unfold Ctx.day; omega)
  · exact RowOK.cmp .i64 (x := ((c.day j : Nat) : Int)) (y := ((c.day j : Nat) : Int)) e12 e12 (.inr (.inl ⟨rfl, by simp⟩))
theorem orNum_ok {j : Nat} (hj : j < 2) : ∀ r ∈ orNum j, RowOK E 9 (withM c.sg m) r := by
  have e5 : conc (withM c.sg m) (.sym (5 + j)) = .int .u32 (c.b j) := by
    show concS (5 + j) (withM c.sg m (5 + j)) = _
    rw [Ctx.sg_lt (by omega)]
    match j, hj with
    | 0, _ => rfl
    | 1, _ => rfl
  have e19 : conc (withM c.sg m) (.sym (19 + j)) = .int .i64 (c.b j) := by
    show concS (19 + j) (withM c.sg m (19 + j)) = _
    rw [Ctx.sg_lt (by omega)]
    match j, hj with
    | 0, _ => rfl
    | 1, _ => rfl
  have hb := h.bt j hj
  intro r hr
  simp only [orNum, List.mem_cons, List.mem_nil_iff, or_false] at hr
  rcases hr with rfl | rfl | rfl | rfl
  · refine RowOK.conv (u := 27) (d := 3) (k := .u32) (k' := .i64) (n := (c.b j : Int)) ?_ ?_ e5 ?_ (by omega)
    · unfold und; rw [ht]; kernel_rfl
    · unfold und; rw [ht]; kernel_rfl
    · show conc _ (.sym (19 + j)) = _
      rw [e19, wrap64_id (by omega) (by omega)]
  · exact RowOK.seq (p := nats (c.N j)) (q := nats (c.N j)) (Ctx.fN h hj).1 (Ctx.fN h hj).1 (.inl ⟨rfl, by simp⟩)
  · exact RowOK.cmp .i64 (x := (c.b j : Int)) (y := 0) e19 rfl (.inr (.inr (.inr (.inr (.inr ⟨rfl, by symm; rw [decide_eq_true_eq]; omega⟩)))))
  · exact RowOK.cmp .i64 (x := (c.b j : Int)) (y := (c.b j : Int)) e19 e19 (.inr (.inl ⟨rfl, by simp⟩))
/-- The rows that go for any request. -/
theorem orB_ok : ∀ r ∈ orB c.k c.l, RowOK E 9 (withM c.sg m) r := by
  have c7 : conc (withM c.sg m) (.sym 7) = .str (nats c.t) := by show concS 7 (withM c.sg m 7) = _; rw [Ctx.sg7]; rfl
  have c31 : conc (withM c.sg m) (.sym 31) = .str (nats c.S) := by show concS 31 (withM c.sg m 31) = _; rw [Ctx.sg31]; rfl
  have c29 : conc (withM c.sg m) (.sym 29) = .int .i64 (c.t.length : Nat) := by show concS 29 (withM c.sg m 29) = _; rw [Ctx.sg_lt (by omega)]; rfl
  have c28 : conc (withM c.sg m) (.sym 28) = .int .i64 (c.S.length : Nat) := by show concS 28 (withM c.sg m 28) = _; rw [Ctx.sg_lt (by omega)]; rfl
  have c0 : conc (withM c.sg m) (.sym 0) = .int .u8 (c.a0 : Nat) := by show concS 0 (withM c.sg m 0) = _; rw [Ctx.sg_lt (by omega)]; rfl
  have c1 : conc (withM c.sg m) (.sym 1) = .int .u8 (c.a1 : Nat) := by show concS 1 (withM c.sg m 1) = _; rw [Ctx.sg_lt (by omega)]; rfl
  have hS := Ctx.S_len h
  have hT := h.tt
  intro r hr
  unfold orB at hr
  rcases List.mem_append.1 hr with hr | hr
  · simp only [List.mem_cons, List.mem_nil_iff, or_false] at hr
    rcases hr with rfl | rfl | rfl | rfl | rfl | rfl | rfl | rfl
    · exact RowOK.len (typ9 ht) (x := nats c.t) c7 (by rw [c29, nats_len]; rfl)
    · exact RowOK.cmp .i64 (x := ((c.t.length : Nat) : Int)) (y := 500) c29 rfl (.inr (.inr (.inr (.inr (.inl ⟨rfl, by symm; rw [decide_eq_false_iff_not]; omega⟩)))))
    · exact RowOK.rem .u8 (x := ((c.a0 : Nat) : Int)) (y := ((4 : Nat) : Int)) c0 rfl rfl (by decide) (tmodN _ _)
    · exact RowOK.rem .u8 (x := ((c.a1 : Nat) : Int)) (y := ((6 : Nat) : Int)) c1 rfl rfl (by decide) (tmodN _ _)
    · exact RowOK.len (typ9 ht) (x := nats c.S) c31 (by rw [c28, nats_len]; rfl)
    · exact RowOK.cmp .i64 (x := ((c.S.length : Nat) : Int)) (y := 8192) c28 rfl (.inr (.inr (.inr (.inr (.inl ⟨rfl, by symm; rw [decide_eq_false_iff_not]; omega⟩)))))
    · exact RowOK.seq (p := nats c.t) (q := nats c.t) c7 c7 (.inl ⟨rfl, by simp⟩)
    · exact RowOK.seq (p := nats c.S) (q := nats c.S) c31 c31 (.inl ⟨rfl, by simp⟩)
  · rcases List.mem_append.1 hr with hr | hr
    · obtain ⟨x, hx, hr⟩ := catR_mem hr
      obtain ⟨j, hj, rfl⟩ := List.mem_map.1 hx
      exact orDay_ok ht (days3 c.k4 hj) r hr
    · rcases List.mem_append.1 hr with hr | hr
      · obtain ⟨x, hx, hr⟩ := catR_mem hr
        obtain ⟨j, hj, rfl⟩ := List.mem_map.1 hx
        exact orNum_ok h ht (nums2 c.k4 hj) r hr
      · exact orOut_ok (t := c.t) (S := c.S) Ctx.sg7 Ctx.sg31 (by omega) (outsA c.k) c.Fs 50 (.str (preA c.k c.l)) c.Pr (Ctx.outs h) (by show AV.str _ = _; rw [Ctx.pre_nats]) Ctx.pre_S (fun j v hj => Ctx.sg_out hj) r hr
end

theorem Flds.vals {σ : Nat → Value} {a : AV} {t : List UInt8} (ha : VR (fun _ => none) σ a (strV t)) : ∀ {l : List AV} {fs : List (List UInt8)}, Flds σ l fs → VRs (fun _ => none) σ (l ++ [a]) ((fs ++ [t]).map strV)
  | [], [], _ => ⟨_, _, rfl, ha, rfl⟩
  | [], _ :: _, h => h.elim
  | _ :: _, [], h => h.elim
  | _ :: _, _ :: _, ⟨h, hl⟩ => ⟨_, _, rfl, h.2.2.2.2, Flds.vals ha hl⟩
theorem Flds.tell {σ : Nat → Value} : ∀ {l : List AV} {fs : List (List UInt8)}, Flds σ l fs → l.all tells = true
  | [], [], _ => rfl
  | [], _ :: _, h => h.elim
  | _ :: _, [], h => h.elim
  | _ :: _, _ :: _, ⟨h, hl⟩ => by rw [List.all_cons, h.2.2.1, Flds.tell hl]; rfl

section
variable {c : Ctx} (h : c.OK) {m : Int}
include h
theorem krDay_ok {j : Nat} (hj : j < 3) : ∀ r ∈ krDay j, KRow Tryz.prog gl (withM c.sg m) r.f r.args r.img tabV := by
  have e12 : withM c.sg m (12 + 3 * j) = .int .i64 (c.day j : Nat) := by
    rw [Ctx.sg_lt (by omega)]
    match j, hj with
    | 0, _ => rfl
    | 1, _ => rfl
    | 2, _ => rfl
  have e21 := (Ctx.fD h hj (m := m)).2.2.2.2
  obtain ⟨y, mm, d, hd, e⟩ := h.dt j hj
  intro r hr
  simp only [krDay, List.mem_cons, List.mem_nil_iff, or_false] at hr
  rcases hr with rfl | rfl
  · exact KRow.ofV glOK gl_bareM (withM_kM _ _) rfl (va := #[.int .i64 (c.day j : Nat)]) ⟨_, _, rfl, ⟨e12.symm, rfl⟩, rfl⟩ (.inl rfl) (u := strV (c.D j)) e21 (by rw [e]; exact (c_text hd).g)
  · exact KRow.ofV glOK gl_bareM (withM_kM _ _) rfl (va := #[strV (c.D j)]) ⟨_, _, rfl, e21, rfl⟩ (.inr ⟨_, rfl, rfl⟩) (u := .tuple #[.int .i64 (c.day j : Nat), .bool true]) ⟨_, rfl, _, _, rfl, ⟨e12.symm, rfl⟩, _, _, rfl, rfl, rfl⟩ (by rw [e]; exact (c_parse hd).g)
theorem krNum_ok {j : Nat} (hj : j < 2) : ∀ r ∈ krNum j, KRow Tryz.prog gl (withM c.sg m) r.f r.args r.img tabV := by
  have e19 : withM c.sg m (19 + j) = .int .i64 (c.b j) := by
    rw [Ctx.sg_lt (by omega)]
    match j, hj with
    | 0, _ => rfl
    | 1, _ => rfl
  have e24 := (Ctx.fN h hj (m := m)).2.2.2.2
  have hb := h.bt j hj
  intro r hr
  simp only [krNum, List.mem_cons, List.mem_nil_iff, or_false] at hr
  rcases hr with rfl | rfl
  · exact KRow.ofV glOK gl_bareM (withM_kM _ _) rfl (va := #[.int .i64 (c.b j : Nat)]) ⟨_, _, rfl, ⟨e19.symm, rfl⟩, rfl⟩ (.inl rfl) (u := strV (c.N j)) e24 (c_itoa (c.b j) (by omega)).g
  · exact KRow.ofV glOK gl_bareM (withM_kM _ _) rfl (va := #[strV (c.N j)]) ⟨_, _, rfl, e24, rfl⟩ (.inr ⟨_, rfl, rfl⟩) (u := .tuple #[.int .i64 (c.b j : Nat), .nilIface]) ⟨_, rfl, _, _, rfl, ⟨e19.symm, rfl⟩, _, _, rfl, rfl, rfl⟩
      (c_atoi (c.N j) _ (by have := (Ctx.N_ok h hj).2; omega) (by
        have := atoi_pad (u := c.b j) (Nat.le_refl (Lib.nDigits (c.b j))) (by have := nDigits_le 9 (c.b j) (by omega); omega)
        rwa [pad_self] at this)).g
theorem krB_ok : ∀ r ∈ krB c.k c.l, KRow Tryz.prog gl (withM c.sg m) r.f r.args r.img tabV := by
  intro r hr
  unfold krB at hr
  have hS := Ctx.S_len h
  rcases List.mem_append.1 hr with hr | hr
  · exact krCuts_ok (withM_kM _ _) Ctx.sg7 (fieldsA c.k c.l) c.F 31 (Ctx.flds h) (fun j hj => Ctx.sg_cut (by omega)) (by show c.S.length < _; omega) r hr
  · rcases List.mem_append.1 hr with hr | hr
    · obtain ⟨x, hx, hr⟩ := catK_mem hr
      obtain ⟨j, hj, rfl⟩ := List.mem_map.1 hx
      exact krDay_ok h (days3 c.k4 hj) r hr
    · obtain ⟨x, hx, hr⟩ := catK_mem hr
      obtain ⟨j, hj, rfl⟩ := List.mem_map.1 hx
      exact krNum_ok h (nums2 c.k4 hj) r hr
theorem jrB_ok : ∀ r ∈ jrB c.k c.l, JRow Tryz.prog (withM c.sg m) 33 ⟨#[32]⟩ r := by
  intro r hr
  have hS := Ctx.S_len h
  simp only [jrB, List.mem_cons, List.mem_nil_iff, or_false] at hr
  subst hr
  have hf := Ctx.flds h (m := m)
  have eS : Lib.join ((((c.F ++ [c.t]).map fun l => (⟨l.toArray⟩ : ByteArray))).map (·.data.toList)) [32] = c.S := by
    rw [List.map_map, show ((fun x : ByteArray => x.data.toList) ∘ fun l : List UInt8 => (⟨l.toArray⟩ : ByteArray)) = id from rfl, List.map_id]
    exact join_tail c.F c.t
  refine ⟨by rw [List.all_append, Flds.tell hf]; rfl, rfl, (c.F ++ [c.t]).map fun l => (⟨l.toArray⟩ : ByteArray), strV c.S, ?_, ⟨Ctx.sg31.symm, rfl⟩, ?_⟩
  · rw [List.map_map]
    exact Flds.vals (a := .sym 7) ⟨Ctx.sg7.symm, rfl⟩ hf
  · intro bk o cp w hcells hbk hcap
    have hlen := c.F_len
    refine (Tryz.strings_Join bk o cp _ ⟨#[32]⟩ w hcells hbk (by rw [List.length_map, List.length_append]; show c.F.length + 1 ≤ _; omega) hcap (by show (Lib.join _ [32]).length ≤ _; rw [eS]; omega)).mono ?_
    rintro e w' ⟨rfl, hB⟩
    refine ⟨?_, hB⟩
    show Ending.returned (.string ⟨(Lib.join _ [32]).toArray⟩) = _
    rw [eS]; rfl
theorem back_row : PRow Tryz.prog gl (withM c.sg m) 13 [qA] (.bool true) tabV := by
  have ok : EnvS (EB c.k c.l) (withM c.sg m) := EnvS.ask envV (orB_ok h (E := EB c.k c.l) rfl)
  have mo : MemoOK (EB c.k c.l) (withM c.sg m) := by
    refine MemoOK.or (E := EB c.k c.l) (MemoOK.ofI (E := EB c.k c.l) ?_ _) (MemoOK.or (E := EB c.k c.l) (memoJ_ok (E := EB c.k c.l) (sep := ⟨#[32]⟩) (jrB_ok h)) (MemoOK.ofK (E := EB c.k c.l) (krB_ok h)))
    intro x hx
    simp only [List.mem_cons, List.mem_nil_iff, or_false] at hx
    subst hx
    exact know19
  obtain ⟨n, hrun⟩ := runB c.k4 c.l6
  exact PRow.ofGr ok mo hrun
end

/-! ### The rest is too long -/
theorem back_row_X {a0 a1 s0 s1 s2 b0 b1 m : Int} {t : List UInt8} (hl : 500 < t.length) : PRow Tryz.prog gl (withM (fun i => pick .nilIface [.int .u8 a0, .int .u8 a1, .int .u32 s0, .int .u32 s1, .int .u32 s2, .int .u32 b0, .int .u32 b1, strV t, .nilIface, .nilIface,
    .nilIface, .nilIface, .nilIface, .nilIface, .nilIface, .nilIface, .nilIface, .nilIface, .nilIface, .nilIface, .nilIface, .nilIface, .nilIface, .nilIface, .nilIface, .nilIface, .nilIface, .nilIface, .nilIface, .int .i64 (t.length : Nat)] i) m) 13 [qA] (.bool true) tabV := by
  refine PRow.ofGr (E := EBX) (EnvS.ask envV ?_) (MemoOK.ofI (E := EBX) ?_ _) runBX
  · intro r hr
    simp only [orBX, List.mem_cons, List.mem_nil_iff, or_false] at hr
    rcases hr with rfl | rfl
    · exact RowOK.len (typ9 rfl) (x := nats t) rfl (by rw [nats_len]; rfl)
    · exact RowOK.cmp .i64 (x := ((t.length : Nat) : Int)) (y := 500) rfl rfl (.inr (.inr (.inr (.inr (.inl ⟨rfl, by symm; rw [decide_eq_true_eq]; omega⟩)))))
  · intro x hx
    simp only [List.mem_cons, List.mem_nil_iff, or_false] at hx
    subst hx
    exact know19
end
end Go.Proofs.YtgbflpajaihmmaaGreatDoor
