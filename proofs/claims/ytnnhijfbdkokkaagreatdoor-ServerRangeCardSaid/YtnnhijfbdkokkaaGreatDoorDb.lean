/- A request in a language that there isn't: the runs on symbols. A request in a language that there isn't: what the symbols stand for, and that the rows are so. No condition. -/
import Derived.Test.YtnnhijfbdkokkaaGreatDoorRk20
import Derived.Test.YtnnhijfbdkokkaaGreatDoorBd
/-! A request in a language that there isn't: the runs on symbols. -/
namespace Go.Proofs.YtnnhijfbdkokkaaGreatDoor
open Go Go.Eng Go.RowKit
noncomputable section
set_option maxRecDepth 100000

def fieldsN (k : Nat) : List AV := pick [] [[wordA 0, .sym 8, .sym 21], [wordA 1, .sym 8], [wordA 2, .sym 8, .sym 21, .sym 22, .sym 23, .sym 24, .sym 25]] k
/-- Is the name one of these, at number i? 4: none. -/
def names4 : List (List Nat) := [[101, 110], [100, 101], [102, 114], [112, 108]]
def orEq (i : Nat) : List OR := List.rec (motive := fun _ => Nat → List OR) (fun _ => []) (fun x _ ih j => ⟨11, [.sym 8, .str x], .bool (Nat.beq i j)⟩ :: ⟨11, [.str x, .sym 8], .bool (Nat.beq i j)⟩ :: ih (Nat.succ j)) names4 0
def orHead (tl nl ne : Bool) : List OR := [⟨20, [.sym 7], .sym 29⟩, ⟨15, [.sym 29, .int .i64 300], .bool tl⟩, ⟨20, [.sym 8], .sym 26⟩, ⟨15, [.sym 26, .int .i64 20], .bool nl⟩, ⟨11, [.sym 8, .str []], .bool ne⟩]
def krHas (b : Bool) : List KR := [⟨fContains, [.sym 8, .str [32]], ⟨.bool b, []⟩⟩]
def orN (k l : Nat) : List OR :=
  orHead false false false ++ (orEq 4 ++ ([⟨12, [.sym 8, .str []], .bool true⟩, ⟨4, [.sym 0, .int .u8 4], .int .u8 (Int.ofNat k)⟩, ⟨4, [.sym 1, .int .u8 6], .int .u8 (Int.ofNat l)⟩, ⟨20, [.sym 31], .sym 28⟩, ⟨15, [.sym 28, .int .i64 8192], .bool false⟩] ++
  (catR ((daysOf k).map orDay) ++ catR ((numsOf k).map orNum))))
def krN (k : Nat) : List KR := krHas false ++ (krCuts 7 31 (fieldsN k) ++ (catK ((daysOf k).map krDay) ++ catK ((numsOf k).map krNum)))
def jrN (k : Nat) : List JR := [⟨fieldsN k ++ [.sym 7], .sym 31⟩]
def tabs20 : List (FuncId × Img) := [(fAwake20, yes), (fEnglish, englishImg), (fGerman, germanImg), (fFrench, frenchImg), (fPolish, polishImg)]
def mmN (k : Nat) : FuncId → List AV → St → Option (AV × St) := memoOr (memoI gl tabs20) (memoOr (memoJ fJoin [32] (jrN k)) (memoK gl (krN k)))
def EN (k l : Nat) : Env := EV.ask 9 (orN k l) (mmN k)
def ENH (k l : Nat) : Env := EV.askH 9 (orN k l) (memoOr (memoI gl tabs20) (memoOr (memoJ fJoin [32] (jrN k)) (memoKH gl (krN k))))
theorem ENH_eq (k l : Nat) : ENH k l = EN k l := by
  unfold ENH EN mmN
  rw [Env.askH_eq, memoKH_eq]
theorem runN0 : allB (fun l => rowRunG (ENH 0 l) gl fServerNone [qA, .sym 8] 3000 (.bool true)) locs6 = true := by kernel_rfl
theorem runN1 : allB (fun l => rowRunG (ENH 1 l) gl fServerNone [qA, .sym 8] 3000 (.bool true)) locs6 = true := by kernel_rfl
theorem runN2 : allB (fun l => rowRunG (ENH 2 l) gl fServerNone [qA, .sym 8] 3000 (.bool true)) locs6 = true := by kernel_rfl
theorem runN {k l : Nat} (hk : k < 3) (hl : l < 6) : ∃ n, rowRunG (EN k l) gl fServerNone [qA, .sym 8] n (.bool true) = true := by
  have hm : l ∈ locs6 := by
    have : ∀ r, r < 6 → r ∈ locs6 := by decide
    exact this l hl
  rw [← ENH_eq]
  match k, hk with
  | 0, _ => exact ⟨_, allB_spec runN0 l hm⟩
  | 1, _ => exact ⟨_, allB_spec runN1 l hm⟩
  | 2, _ => exact ⟨_, allB_spec runN2 l hm⟩
def EX (o : List OR) (b : Bool) : Env := EV.askH 9 o (memoOr (memoI gl tabs20) (memoKH gl (krHas b)))
/-- A check wants no language. -/
def orC : List OR := orHead false false false ++ (orEq 4 ++ [⟨4, [.sym 0, .int .u8 4], .int .u8 3⟩])
theorem runCk : rowRunG (EX orC false) gl fServerNone [qA, .sym 8] 20000 (.bool true) = true := by kernel_rfl
/-! What is not looked at: the text is too long; the name is; it is empty; it has a blank; it is a language's. -/
theorem runX0 : ∀ nl ne b : Bool, rowRunG (EX (orHead true nl ne) b) gl fServerNone [qA, .sym 8] 1000 (.bool true) = true := by
  intro nl ne b
  cases nl <;> cases ne <;> cases b <;> kernel_rfl
theorem runX1 : ∀ ne b : Bool, rowRunG (EX (orHead false true ne) b) gl fServerNone [qA, .sym 8] 1000 (.bool true) = true := by
  intro ne b
  cases ne <;> cases b <;> kernel_rfl
theorem runX2 : ∀ b : Bool, rowRunG (EX (orHead false false true) b) gl fServerNone [qA, .sym 8] 1000 (.bool true) = true := by
  intro b
  cases b <;> kernel_rfl
theorem runX3 : rowRunG (EX (orHead false false false) true) gl fServerNone [qA, .sym 8] 1000 (.bool true) = true := by kernel_rfl
theorem runX4 : allB (fun i => rowRunG (EX (orHead false false false ++ orEq i) false) gl fServerNone [qA, .sym 8] 1000 (.bool true)) [0, 1, 2, 3] = true := by kernel_rfl
end
end Go.Proofs.YtnnhijfbdkokkaaGreatDoor

/-! A request in a language that there isn't: what the symbols stand for, and that the rows are so. -/
namespace Go.Proofs.YtnnhijfbdkokkaaGreatDoor
open Go Go.Eng Go.RowKit
noncomputable section
set_option maxRecDepth 100000

/-- What a request is made of. -/
structure CtxN where
  a0 : Nat
  a1 : Nat
  s : Nat → Nat
  b : Nat → Nat
  D : Nat → List UInt8
  t : List UInt8
  nm : List UInt8
namespace CtxN
variable (c : CtxN)
def k : Nat := c.a0 % 4
def l : Nat := c.a1 % 6
def N (j : Nat) : List UInt8 := Lib.decDigits (c.b j)
def F : List (List UInt8) := pick [] [[wd 0, c.nm, c.D 0], [wd 1, c.nm], [wd 2, c.nm, c.D 0, c.D 1, c.D 2, c.N 0, c.N 1]] c.k
/-- Its bytes. -/
def S : List UInt8 := tailS c.F c.t
def day (j : Nat) : Nat := 1 + c.s j % 3652059
def base : List Value := [.int .u8 c.a0, .int .u8 c.a1, .int .u32 (c.s 0), .int .u32 (c.s 1), .int .u32 (c.s 2), .int .u32 (c.b 0), .int .u32 (c.b 1), strV c.t, strV c.nm, .nilIface,
  .int .u32 (c.s 0 % 3652059 : Nat), .int .i64 (c.s 0 % 3652059 : Nat), .int .i64 (c.day 0 : Nat), .int .u32 (c.s 1 % 3652059 : Nat), .int .i64 (c.s 1 % 3652059 : Nat), .int .i64 (c.day 1 : Nat), .int .u32 (c.s 2 % 3652059 : Nat), .int .i64 (c.s 2 % 3652059 : Nat), .int .i64 (c.day 2 : Nat),
  .int .i64 (c.b 0), .int .i64 (c.b 1), strV (c.D 0), strV (c.D 1), strV (c.D 2), strV (c.N 0), strV (c.N 1), .int .i64 (c.nm.length : Nat), .nilIface, .int .i64 (c.S.length : Nat), .int .i64 (c.t.length : Nat)]
def sg (i : Nat) : Value := Bool.rec (motive := fun _ => Value) ((cutV c.F c.t).getD (i - 31) .nilIface) (pick .nilIface c.base i) (Nat.blt i 31)
/-- The request is one that may be made. -/
structure OK : Prop where
  dt : ∀ j, j < 3 → ∃ y mm d, Dated (c.day j) y mm d ∧ c.D j = dayT y mm d
  bt : ∀ j, j < 2 → c.b j < 4294967296
  tt : c.t.length ≤ 300
  nt : c.nm.length ≤ 20
  n0 : c.nm ≠ []
  nb : 32 ∉ c.nm
  no : ∀ x ∈ names4, nats c.nm ≠ x
  k3 : c.k < 3
variable {c} {m : Int}
theorem l6 : c.l < 6 := Nat.mod_lt _ (by omega)
theorem sg_lt {i : Nat} (h : i < 31) : withM c.sg m i = pick .nilIface c.base i := by
  rw [withM_ne (by omega)]
  unfold sg
  have : Nat.blt i 31 = true := by rw [blt_iff]; exact decide_eq_true h
  rw [this]
theorem F_len : c.F.length ≤ 7 := by
  unfold F
  rcases Nat.lt_or_ge c.k 3 with this | this
  · match h : c.k, this with
    | 0, _ => show 3 ≤ 7; omega
    | 1, _ => show 2 ≤ 7; omega
    | 2, _ => show 7 ≤ 7; omega
  · obtain ⟨q, hq⟩ : ∃ q, c.k = q + 3 := ⟨c.k - 3, by omega⟩
    rw [hq]
    show ([] : List (List UInt8)).length ≤ 7
    simp
theorem sg_cut {j : Nat} (h : j ≤ c.F.length) : withM c.sg m (31 + j) = strV (tailS (c.F.drop j) c.t) := by
  have := c.F_len
  rw [withM_ne (by omega)]
  unfold sg
  have h1 : Nat.blt (31 + j) 31 = false := by rw [blt_iff]; exact decide_eq_false (by omega)
  rw [h1]
  show (cutV c.F c.t).getD (31 + j - 31) .nilIface = _
  rw [List.getD_eq_getElem?_getD, show 31 + j - 31 = j by omega, cutV_at c.t c.F j h]; rfl
theorem sg8 : withM c.sg m 8 = strV c.nm := sg_lt (by omega)
theorem sg31 : withM c.sg m 31 = strV c.S := sg_cut (c := c) (j := 0) (Nat.zero_le _)
theorem sg7 : withM c.sg m 7 = strV c.t := sg_lt (by omega)

section
variable (h : c.OK)
include h
theorem D_ok {j : Nat} (hj : j < 3) : 32 ∉ c.D j ∧ (c.D j).length ≤ 10 := by
  obtain ⟨y, mm, d, hd, e⟩ := h.dt j hj
  rw [e]; exact dayT_ok hd
theorem N_ok {j : Nat} (hj : j < 2) : 32 ∉ c.N j ∧ (c.N j).length ≤ 10 := dec_ok (h.bt j hj)
theorem fD {j : Nat} (hj : j < 3) : Fld (withM c.sg m) (.sym (21 + j)) (c.D j) := by
  refine Fld.sym (D_ok h hj).1 ?_
  rw [sg_lt (by omega)]
  match j, hj with
  | 0, _ => rfl
  | 1, _ => rfl
  | 2, _ => rfl
theorem fN {j : Nat} (hj : j < 2) : Fld (withM c.sg m) (.sym (24 + j)) (c.N j) := by
  refine Fld.sym (N_ok h hj).1 ?_
  rw [sg_lt (by omega)]
  match j, hj with
  | 0, _ => rfl
  | 1, _ => rfl
theorem fNm : Fld (withM c.sg m) (.sym 8) c.nm := Fld.sym h.nb sg8
theorem F_ok : ∀ f ∈ c.F, f.length ≤ 20 := by
  unfold F
  have := h.k3
  intro f hf
  match hk : c.k, this with
  | 0, _ =>
    rw [hk] at hf
    have hf : f ∈ [wd 0, c.nm, c.D 0] := hf
    simp only [List.mem_cons, List.mem_nil_iff, or_false] at hf
    rcases hf with rfl | rfl | rfl
    · have := (wd_ok (k := 0) (by omega)).2; omega
    · exact h.nt
    · have := (D_ok h (j := 0) (by omega)).2; omega
  | 1, _ =>
    rw [hk] at hf
    have hf : f ∈ [wd 1, c.nm] := hf
    simp only [List.mem_cons, List.mem_nil_iff, or_false] at hf
    rcases hf with rfl | rfl
    · have := (wd_ok (k := 1) (by omega)).2; omega
    · exact h.nt
  | 2, _ =>
    rw [hk] at hf
    have hf : f ∈ [wd 2, c.nm, c.D 0, c.D 1, c.D 2, c.N 0, c.N 1] := hf
    simp only [List.mem_cons, List.mem_nil_iff, or_false] at hf
    rcases hf with rfl | rfl | rfl | rfl | rfl | rfl | rfl
    · have := (wd_ok (k := 2) (by omega)).2; omega
    · exact h.nt
    · have := (D_ok h (j := 0) (by omega)).2; omega
    · have := (D_ok h (j := 1) (by omega)).2; omega
    · have := (D_ok h (j := 2) (by omega)).2; omega
    · have := (N_ok h (j := 0) (by omega)).2; omega
    · have := (N_ok h (j := 1) (by omega)).2; omega
theorem S_len : c.S.length ≤ 600 := by
  have h1 := tailS_len c.F c.t 20 (F_ok h)
  have h2 := c.F_len
  have h3 := h.tt
  unfold S
  have : c.F.length * 21 ≤ 7 * 21 := Nat.mul_le_mul_right _ h2
  omega
theorem flds : Flds (withM c.sg m) (fieldsN c.k) c.F := by
  unfold F
  have := h.k3
  match hk : c.k, this with
  | 0, _ => exact ⟨fW (by omega), fNm h, fD h (j := 0) (by omega), trivial⟩
  | 1, _ => exact ⟨fW (by omega), fNm h, trivial⟩
  | 2, _ => exact ⟨fW (by omega), fNm h, fD h (j := 0) (by omega), fD h (j := 1) (by omega), fD h (j := 2) (by omega), fN h (j := 0) (by omega), fN h (j := 1) (by omega), trivial⟩
end
theorem at_sg {i : Nat} {v : Value} (h : i < 31) (e : pick .nilIface c.base i = v) : withM c.sg m i = v := by rw [sg_lt h]; exact e
theorem days (h : c.OK) : DaysOK (withM c.sg m) c.s c.D := by
  refine ⟨fun j hj => ?_, fun j hj => ?_, fun j hj => ?_, fun j hj => ?_, fun j hj => ?_, h.dt⟩ <;> refine at_sg (by omega) ?_
  all_goals
    match j, hj with
    | 0, _ => rfl
    | 1, _ => rfl
    | 2, _ => rfl
theorem nums (h : c.OK) : NumsOK (withM c.sg m) c.b := by
  refine ⟨fun j hj => ?_, fun j hj => ?_, fun j hj => ?_, h.bt⟩ <;> refine at_sg (by omega) ?_
  all_goals
    match j, hj with
    | 0, _ => rfl
    | 1, _ => rfl
end CtxN

/-! ### Rows -/
theorem orHead_ok {E : Env} (ht : E.ty = E0.ty) {σ : Nat → Value} {t nm : List UInt8} (h7 : σ 7 = strV t) (h8 : σ 8 = strV nm) (h29 : σ 29 = .int .i64 (t.length : Nat)) (h26 : σ 26 = .int .i64 (nm.length : Nat)) {tl nl ne : Bool} (e1 : tl = decide (300 < t.length)) (e2 : nl = decide (20 < nm.length)) (e3 : ne = decide (nm = [])) :
    ∀ r ∈ orHead tl nl ne, RowOK E 9 σ r := by
  have c7 : conc σ (.sym 7) = .str (nats t) := by show concS 7 (σ 7) = _; rw [h7]; rfl
  have c8 : conc σ (.sym 8) = .str (nats nm) := by show concS 8 (σ 8) = _; rw [h8]; rfl
  have c29 : conc σ (.sym 29) = .int .i64 (t.length : Nat) := by show concS 29 (σ 29) = _; rw [h29]; rfl
  have c26 : conc σ (.sym 26) = .int .i64 (nm.length : Nat) := by show concS 26 (σ 26) = _; rw [h26]; rfl
  intro r hr
  simp only [orHead, List.mem_cons, List.mem_nil_iff, or_false] at hr
  rcases hr with rfl | rfl | rfl | rfl | rfl
  · exact RowOK.len (typ9 ht) (x := nats t) c7 (by rw [c29, nats_len]; rfl)
  · exact RowOK.cmp .i64 (x := ((t.length : Nat) : Int)) (y := 300) c29 rfl (.inr (.inr (.inr (.inr (.inl ⟨rfl, by rw [e1, decide_eq_decide]; omega⟩)))))
  · exact RowOK.len (typ9 ht) (x := nats nm) c8 (by rw [c26, nats_len]; rfl)
  · exact RowOK.cmp .i64 (x := ((nm.length : Nat) : Int)) (y := 20) c26 rfl (.inr (.inr (.inr (.inr (.inl ⟨rfl, by rw [e2, decide_eq_decide]; omega⟩)))))
  · refine RowOK.seq (p := nats nm) (q := []) c8 rfl (.inl ⟨rfl, ?_⟩)
    rw [e3, decide_eq_decide]
    unfold nats
    rw [List.map_eq_nil_iff]
theorem orEq_ok {E : Env} {σ : Nat → Value} {nm : List UInt8} {i : Nat} (h8 : σ 8 = strV nm) (hi : ∀ j x, names4[j]? = some x → Nat.beq i j = decide (nats nm = x)) : ∀ r ∈ orEq i, RowOK E 9 σ r := by
  have c8 : conc σ (.sym 8) = .str (nats nm) := by show concS 8 (σ 8) = _; rw [h8]; rfl
  have both : ∀ j x, names4[j]? = some x → RowOK E 9 σ ⟨11, [.sym 8, .str x], .bool (Nat.beq i j)⟩ ∧ RowOK E 9 σ ⟨11, [.str x, .sym 8], .bool (Nat.beq i j)⟩ := fun j x hj =>
    ⟨RowOK.seq (p := nats nm) (q := x) c8 rfl (.inl ⟨rfl, hi j x hj⟩), RowOK.seq (p := x) (q := nats nm) rfl c8 (.inl ⟨rfl, by rw [hi j x hj, decide_eq_decide]; exact eq_comm⟩)⟩
  have e : orEq i = [⟨11, [.sym 8, .str [101, 110]], .bool (Nat.beq i 0)⟩, ⟨11, [.str [101, 110], .sym 8], .bool (Nat.beq i 0)⟩, ⟨11, [.sym 8, .str [100, 101]], .bool (Nat.beq i 1)⟩, ⟨11, [.str [100, 101], .sym 8], .bool (Nat.beq i 1)⟩,
    ⟨11, [.sym 8, .str [102, 114]], .bool (Nat.beq i 2)⟩, ⟨11, [.str [102, 114], .sym 8], .bool (Nat.beq i 2)⟩, ⟨11, [.sym 8, .str [112, 108]], .bool (Nat.beq i 3)⟩, ⟨11, [.str [112, 108], .sym 8], .bool (Nat.beq i 3)⟩] := rfl
  rw [e]
  intro r hr
  simp only [List.mem_cons, List.mem_nil_iff, or_false] at hr
  rcases hr with rfl | rfl | rfl | rfl | rfl | rfl | rfl | rfl
  · exact (both 0 _ rfl).1
  · exact (both 0 _ rfl).2
  · exact (both 1 _ rfl).1
  · exact (both 1 _ rfl).2
  · exact (both 2 _ rfl).1
  · exact (both 2 _ rfl).2
  · exact (both 3 _ rfl).1
  · exact (both 3 _ rfl).2
theorem names_none {nm : List UInt8} (h : ∀ x ∈ names4, nats nm ≠ x) : ∀ j x, names4[j]? = some x → Nat.beq 4 j = decide (nats nm = x) := by
  intro j x hj
  have hx := h x (List.mem_of_getElem? hj)
  have h4 : j < 4 := (List.getElem?_eq_some_iff.1 hj).1
  rw [decide_eq_false hx]
  match j, h4 with
  | 0, _ => rfl
  | 1, _ => rfl
  | 2, _ => rfl
  | 3, _ => rfl
theorem names_one {nm : List UInt8} {i : Nat} (h : names4[i]? = some (nats nm)) : ∀ j x, names4[j]? = some x → Nat.beq i j = decide (nats nm = x) := by
  intro j x hj
  have hi : i < 4 := (List.getElem?_eq_some_iff.1 h).1
  have hj4 : j < 4 := (List.getElem?_eq_some_iff.1 hj).1
  have key : ∀ i, i < 4 → ∀ j, j < 4 → Nat.beq i j = decide (names4[i]? = names4[j]?) := by decide
  rw [key i hi j hj4, h, hj, decide_eq_decide]
  exact Option.some_inj

theorem indexByte_mem : ∀ l : List UInt8, (0 ≤ Lib.indexByte l 32 ↔ 32 ∈ l) ∧ -1 ≤ Lib.indexByte l 32
  | [] => ⟨by simp [Lib.indexByte], by simp [Lib.indexByte]⟩
  | x :: l => by
    obtain ⟨h1, h2⟩ := indexByte_mem l
    unfold Lib.indexByte
    by_cases hx : x = 32
    · subst hx
      simp
    · have hn : (x == (32 : UInt8)) = false := by rw [beq_eq_false_iff_ne]; exact hx
      rw [hn]
      simp only [Bool.false_eq_true, if_false]
      by_cases hr : Lib.indexByte l 32 = -1
      · rw [if_pos (by rw [beq_iff_eq]; exact hr)]
        refine ⟨⟨fun h => absurd h (by decide), fun h => ?_⟩, by decide⟩
        rcases List.mem_cons.1 h with h | h
        · exact absurd h.symm hx
        · have := h1.2 h; omega
      · rw [if_neg (by rw [beq_iff_eq]; exact hr)]
        refine ⟨⟨fun _ => List.mem_cons_of_mem _ (h1.1 (by omega)), fun _ => by omega⟩, by omega⟩
theorem has_blank {σ : Nat → Value} (nm : List UInt8) (w : World) : Calls Tryz.prog fContains #[strV nm, strV [32]] w (fun e w' => ∃ u, e = .returned u ∧ VR (fun _ => none) σ (.bool (decide (32 ∈ nm))) u ∧ Below w.heap.size w w') := by
  refine (Tryz.strings_Contains_one ⟨nm.toArray⟩ 32 w).mono ?_
  rintro e w' ⟨rfl, rfl⟩
  refine ⟨_, rfl, ?_, Below.refl _ _⟩
  show Value.bool (decide (0 ≤ Lib.indexByte nm 32)) = .bool (decide (32 ∈ nm))
  congr 1
  rw [decide_eq_decide]
  exact (indexByte_mem nm).1
theorem kr_has {σ : Nat → Value} {nm : List UInt8} (h8 : σ 8 = strV nm) : KRow Tryz.prog gl σ fContains [.sym 8, .str [32]] ⟨.bool (decide (32 ∈ nm)), []⟩ tabV :=
  KRow.ofP glOK rfl (.inl rfl) fun w va _ _ ha => by
    have hva : va = #[strV nm, strV [32]] := Array.ext' (tells_funs (ρ := fun _ => none) (ρ' := fun _ => none) (σ := σ) (l := [.sym 8, .str [32]]) rfl ha ⟨_, _, rfl, ⟨h8.symm, rfl⟩, _, _, rfl, ⟨_, rfl, rfl⟩, rfl⟩)
    subst hva
    exact has_blank nm w

section
variable {c : CtxN} (h : c.OK) {m : Int}
include h
theorem orN_ok {E : Env} (ht : E.ty = E0.ty) : ∀ r ∈ orN c.k c.l, RowOK E 9 (withM c.sg m) r := by
  have c8 : conc (withM c.sg m) (.sym 8) = .str (nats c.nm) := by show concS 8 (withM c.sg m 8) = _; rw [CtxN.sg8]; rfl
  have c31 : conc (withM c.sg m) (.sym 31) = .str (nats c.S) := by show concS 31 (withM c.sg m 31) = _; rw [CtxN.sg31]; rfl
  have c28 : conc (withM c.sg m) (.sym 28) = .int .i64 (c.S.length : Nat) := by show concS 28 (withM c.sg m 28) = _; rw [CtxN.sg_lt (by omega)]; rfl
  have c0 : conc (withM c.sg m) (.sym 0) = .int .u8 (c.a0 : Nat) := by show concS 0 (withM c.sg m 0) = _; rw [CtxN.sg_lt (by omega)]; rfl
  have c1 : conc (withM c.sg m) (.sym 1) = .int .u8 (c.a1 : Nat) := by show concS 1 (withM c.sg m 1) = _; rw [CtxN.sg_lt (by omega)]; rfl
  have hS := CtxN.S_len h
  have hT := h.tt
  have hN := h.nt
  intro r hr
  unfold orN at hr
  rcases List.mem_append.1 hr with hr | hr
  · exact orHead_ok ht (t := c.t) (nm := c.nm) CtxN.sg7 CtxN.sg8 (CtxN.sg_lt (by omega)) (CtxN.sg_lt (by omega)) (by symm; rw [decide_eq_false_iff_not]; omega) (by symm; rw [decide_eq_false_iff_not]; omega) (by symm; exact decide_eq_false h.n0) r hr
  rcases List.mem_append.1 hr with hr | hr
  · exact orEq_ok CtxN.sg8 (names_none h.no) r hr
  rcases List.mem_append.1 hr with hr | hr
  · simp only [List.mem_cons, List.mem_nil_iff, or_false] at hr
    rcases hr with rfl | rfl | rfl | rfl | rfl
    · refine RowOK.seq (p := nats c.nm) (q := []) c8 rfl (.inr ⟨rfl, ?_⟩)
      have : ¬ nats c.nm = [] := fun e => h.n0 (by unfold nats at e; exact List.map_eq_nil_iff.1 e)
      rw [decide_eq_false this]; rfl
    · exact RowOK.rem .u8 (x := ((c.a0 : Nat) : Int)) (y := ((4 : Nat) : Int)) c0 rfl rfl (by decide) (tmodN _ _)
    · exact RowOK.rem .u8 (x := ((c.a1 : Nat) : Int)) (y := ((6 : Nat) : Int)) c1 rfl rfl (by decide) (tmodN _ _)
    · exact RowOK.len (typ9 ht) (x := nats c.S) c31 (by rw [c28, nats_len]; rfl)
    · exact RowOK.cmp .i64 (x := ((c.S.length : Nat) : Int)) (y := 8192) c28 rfl (.inr (.inr (.inr (.inr (.inl ⟨rfl, by symm; rw [decide_eq_false_iff_not]; omega⟩)))))
  have hk4 : c.k < 4 := Nat.lt_of_lt_of_le h.k3 (by omega)
  rcases List.mem_append.1 hr with hr | hr
  · obtain ⟨x, hx, hr⟩ := catR_mem hr
    obtain ⟨j, hj, rfl⟩ := List.mem_map.1 hx
    exact orDay_ok ht (CtxN.days h) (days3 hk4 hj) r hr
  · obtain ⟨x, hx, hr⟩ := catR_mem hr
    obtain ⟨j, hj, rfl⟩ := List.mem_map.1 hx
    exact orNum_ok ht (CtxN.nums h) (nums2 hk4 hj) r hr
theorem krN_ok : ∀ r ∈ krN c.k, KRow Tryz.prog gl (withM c.sg m) r.f r.args r.img tabV := by
  have hS := CtxN.S_len h
  have hk4 : c.k < 4 := Nat.lt_of_lt_of_le h.k3 (by omega)
  intro r hr
  unfold krN at hr
  rcases List.mem_append.1 hr with hr | hr
  · simp only [krHas, List.mem_cons, List.mem_nil_iff, or_false] at hr
    subst hr
    have := kr_has (σ := withM c.sg m) (nm := c.nm) CtxN.sg8
    rwa [decide_eq_false h.nb] at this
  rcases List.mem_append.1 hr with hr | hr
  · exact krCuts_ok (withM_kM _ _) CtxN.sg7 (fieldsN c.k) c.F 31 (CtxN.flds h) (fun j hj => CtxN.sg_cut (by omega)) (by show c.S.length < _; omega) r hr
  rcases List.mem_append.1 hr with hr | hr
  · obtain ⟨x, hx, hr⟩ := catK_mem hr
    obtain ⟨j, hj, rfl⟩ := List.mem_map.1 hx
    exact krDay_ok (withM_kM _ _) (CtxN.days h) (days3 hk4 hj) r hr
  · obtain ⟨x, hx, hr⟩ := catK_mem hr
    obtain ⟨j, hj, rfl⟩ := List.mem_map.1 hx
    exact krNum_ok (withM_kM _ _) (CtxN.nums h) (nums2 hk4 hj) r hr
theorem jrN_ok : ∀ r ∈ jrN c.k, JRow Tryz.prog (withM c.sg m) fJoin ⟨#[32]⟩ r := by
  intro r hr
  have hS := CtxN.S_len h
  simp only [jrN, List.mem_cons, List.mem_nil_iff, or_false] at hr
  subst hr
  exact jrow_ok (CtxN.flds h) CtxN.sg7 CtxN.sg31 (by have := c.F_len; omega) (by show c.S.length ≤ _; omega)
end
theorem tabs_ok {E : Env} (hP : E.P = Tryz.prog) (σ : Nat → Value) : MemoOK { E with memo := memoI gl tabs20 } σ := by
  refine MemoOK.ofI ?_ _
  rw [hP]
  intro x hx
  simp only [tabs20, List.mem_cons, List.mem_nil_iff, or_false] at hx
  rcases hx with rfl | rfl | rfl | rfl | rfl
  · exact know20
  · exact knowenglish
  · exact knowgerman
  · exact knowfrench
  · exact knowpolish
theorem none_row {c : CtxN} (h : c.OK) {m : Int} : PRow Tryz.prog gl (withM c.sg m) fServerNone [qA, .sym 8] (.bool true) tabV := by
  have ok : EnvS (EN c.k c.l) (withM c.sg m) := EnvS.ask envV (orN_ok h (E := EN c.k c.l) rfl)
  have mo : MemoOK (EN c.k c.l) (withM c.sg m) :=
    MemoOK.or (E := EN c.k c.l) (tabs_ok (E := EN c.k c.l) rfl _) (MemoOK.or (E := EN c.k c.l) (memoJ_ok (E := EN c.k c.l) (sep := ⟨#[32]⟩) (jrN_ok h)) (MemoOK.ofK (E := EN c.k c.l) (krN_ok h)))
  obtain ⟨n, hrun⟩ := runN h.k3 CtxN.l6
  exact PRow.ofGr ok mo hrun

/-! ### The other cases -/
def EXK (o : List OR) (b : Bool) : Env := EV.ask 9 o (memoOr (memoI gl tabs20) (memoK gl (krHas b)))
theorem other_row {o : List OR} {b : Bool} {n : Nat} (run : rowRunG (EX o b) gl fServerNone [qA, .sym 8] n (.bool true) = true) {σ : Nat → Value} {nm : List UInt8} (h8 : σ 8 = strV nm) (hb : decide (32 ∈ nm) = b) (ho : ∀ E : Env, E.ty = E0.ty → ∀ r ∈ o, RowOK E 9 σ r) :
    PRow Tryz.prog gl σ fServerNone [qA, .sym 8] (.bool true) tabV := by
  have e : EX o b = EXK o b := by unfold EX EXK; rw [Env.askH_eq, memoKH_eq]
  rw [e] at run
  refine PRow.ofGr (E := EXK o b) (EnvS.ask envV (ho _ rfl)) (MemoOK.or (E := EXK o b) (tabs_ok (E := EXK o b) rfl _) (MemoOK.ofK (E := EXK o b) ?_)) run
  intro r hr
  simp only [krHas, List.mem_cons, List.mem_nil_iff, or_false] at hr
  subst hr
  have := kr_has (σ := σ) (nm := nm) h8
  rwa [hb] at this
end
end Go.Proofs.YtnnhijfbdkokkaaGreatDoor
