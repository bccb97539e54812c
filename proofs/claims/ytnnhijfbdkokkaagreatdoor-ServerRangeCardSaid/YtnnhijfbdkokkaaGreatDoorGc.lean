/- A preview's limits: what the symbols stand for, and that the rows are so. No condition. -/
import Derived.Test.YtnnhijfbdkokkaaGreatDoorGb
namespace Go.Proofs.YtnnhijfbdkokkaaGreatDoor
open Go Go.Eng Go.RowKit
noncomputable section
set_option maxRecDepth 100000

def dA8 : List UInt8 := [48, 48, 48, 49, 45, 48, 49, 45, 48, 49]
def dZ8 : List UInt8 := [57, 57, 57, 57, 45, 49, 50, 45, 51, 49]
def tOK8 : List UInt8 := [70, 82, 69, 81, 61, 89, 69, 65, 82, 76, 89, 59, 66, 89, 77, 79, 78, 84, 72, 61, 50, 59, 66, 89, 77, 79, 78, 84, 72, 68, 65, 89, 61, 51, 48, 59, 85, 78, 84, 73, 76, 61, 48, 48, 48, 50, 48, 49, 48, 49]
def tNo8 : List UInt8 := [70, 82, 69, 81, 61, 72, 79, 85, 82, 76, 89]
def t8 (wr : Bool) : List UInt8 := bif_ wr tNo8 tOK8
theorem t8_nats (wr : Bool) : nats (t8 wr) = txtR wr := by cases wr <;> rfl
theorem t8_len (wr : Bool) : (t8 wr).length ≤ 60 := by cases wr <;> decide
def pre8 (i : Nat) : List UInt8 := wd 2 ++ 32 :: (lo i ++ 32 :: (dA8 ++ 32 :: (dA8 ++ 32 :: (dZ8 ++ [32]))))
theorem pre8_nats {i : Nat} (h : i < 4) : nats (pre8 i) = preR i := by
  match i, h with
  | 0, _ => rfl
  | 1, _ => rfl
  | 2, _ => rfl
  | 3, _ => rfl
theorem pre8_len {i : Nat} (h : i < 4) : (pre8 i).length ≤ 60 := by
  have : ∀ i, i < 4 → (pre8 i).length ≤ 60 := by decide
  exact this i h

/-- A preview's numbers. -/
structure CtxR where
  l : Nat
  b : Nat
  n : Nat
  wr : Bool
namespace CtxR
variable (c : CtxR)
def i : Nat := c.n % 4
def A : Nat := if c.n % 2 = 0 then 995 + c.l % 10 else c.l
def B : Nat := if c.n % 2 = 0 then 999995 + c.b % 10 else c.b
def F : List (List UInt8) := [wd 2, lo c.i, dA8, dA8, dZ8, Lib.decDigits c.A, Lib.decDigits c.B]
def S : List UInt8 := tailS c.F (t8 c.wr)
def P : List UInt8 := pre8 c.i
def base : List Value := [.int .u32 (c.l : Nat), .int .u32 (c.b : Nat), .int .u8 (c.n : Nat), .int .i64 (c.A : Nat), .int .i64 (c.B : Nat), strV (Lib.decDigits c.A), strV (Lib.decDigits c.B), .int .u32 (c.l % 10 : Nat), .int .i64 (c.l % 10 : Nat), .int .u32 (c.b % 10 : Nat), .int .i64 (c.b % 10 : Nat), .int .i64 (c.l : Nat), .int .i64 (c.b : Nat), .nilIface, .nilIface,
  .nilIface, .nilIface, .nilIface, .nilIface, .nilIface, strV (c.P ++ Lib.decDigits c.A), strV ((c.P ++ Lib.decDigits c.A) ++ [32]), strV (((c.P ++ Lib.decDigits c.A) ++ [32]) ++ Lib.decDigits c.B), strV ((((c.P ++ Lib.decDigits c.A) ++ [32]) ++ Lib.decDigits c.B) ++ [32]), .nilIface, .int .i64 (c.S.length : Nat)]
def sg (i : Nat) : Value := Bool.rec (motive := fun _ => Value) ((cutV c.F (t8 c.wr)).getD (i - 40) .nilIface) (pick .nilIface c.base i) (Nat.blt i 40)
structure OK : Prop where
  hl : c.l < 4294967296
  hb : c.b < 4294967296
variable {c} {m : Int}
theorem i4 : c.i < 4 := Nat.mod_lt _ (by omega)
theorem sg_lt {i : Nat} (h : i < 40) : withM c.sg m i = pick .nilIface c.base i := by
  rw [withM_ne (by omega)]
  unfold sg
  have : Nat.blt i 40 = true := by rw [blt_iff]; exact decide_eq_true h
  rw [this]
theorem sg_cut {j : Nat} (h : j ≤ 7) : withM c.sg m (40 + j) = strV (tailS (c.F.drop j) (t8 c.wr)) := by
  rw [withM_ne (by omega)]
  unfold sg
  have h1 : Nat.blt (40 + j) 40 = false := by rw [blt_iff]; exact decide_eq_false (by omega)
  rw [h1]
  show (cutV c.F (t8 c.wr)).getD (40 + j - 40) .nilIface = _
  rw [List.getD_eq_getElem?_getD, show 40 + j - 40 = j by omega, cutV_at (t8 c.wr) c.F j (by show j ≤ 7; exact h)]; rfl
theorem sg40 : withM c.sg m 40 = strV c.S := sg_cut (c := c) (j := 0) (Nat.zero_le _)
theorem cc {i : Nat} {k : IntKind} {x : Int} (h : i < 40) (e : pick .nilIface c.base i = .int k x) : conc (withM c.sg m) (.sym i) = .int k x := by
  show concS i (withM c.sg m i) = _
  rw [sg_lt h, e]; rfl
theorem cs {i : Nat} {l : List UInt8} (h : i < 40) (e : pick .nilIface c.base i = strV l) : conc (withM c.sg m) (.sym i) = .str (nats l) := by
  show concS i (withM c.sg m i) = _
  rw [sg_lt h, e]; rfl
theorem P_S : ((((c.P ++ Lib.decDigits c.A) ++ [32]) ++ Lib.decDigits c.B) ++ [32]) ++ t8 c.wr = c.S := by
  unfold P S F pre8
  simp [tailS]
section
variable (h : c.OK)
include h
theorem A_lt : c.A < 4294967296 := by unfold A; have := h.hl; split <;> omega
theorem B_lt : c.B < 4294967296 := by unfold B; have := h.hb; split <;> omega
theorem flds : Flds (withM c.sg m) (fieldsR c.i) c.F := by
  have dA : 32 ∉ dA8 := by decide
  have dZ : 32 ∉ dZ8 := by decide
  have hl : Fld (withM c.sg m) (.str (loc4 c.i)) (lo c.i) := by
    have e : loc4 c.i = nats (lo c.i) := by
      have := c.i4
      match c.i, this with
      | 0, _ => rfl
      | 1, _ => rfl
      | 2, _ => rfl
      | 3, _ => rfl
    rw [e]; exact Fld.str (lo_ok (by have := c.i4; omega)).1
  exact ⟨Fld.str (f := wd 2) (wd_ok (by omega)).1, hl, Fld.str (f := dA8) dA, Fld.str (f := dA8) dA, Fld.str (f := dZ8) dZ, Fld.sym (dec_ok (A_lt h)).1 (sg_lt (by omega)), Fld.sym (dec_ok (B_lt h)).1 (sg_lt (by omega)), trivial⟩
theorem S_len : c.S.length ≤ 200 := by
  rw [← P_S]
  simp only [List.length_append, List.length_singleton]
  have h1 := (dec_ok (A_lt h)).2
  have h2 := (dec_ok (B_lt h)).2
  have h3 := pre8_len c.i4
  have h4 := t8_len c.wr
  show (pre8 c.i).length + _ + 1 + _ + 1 + _ ≤ 200
  omega
end
end CtxR

theorem krCutsT_ok {σ : Nat → Value} {m : Int} (hm : σ kM = .int .i64 m) {t : List UInt8} {ta : AV} (hta : plainA ta = true) (htv : VR (fun _ => none) σ ta (strV t)) : ∀ (l : List AV) (fs : List (List UInt8)) (i : Nat), Flds σ l fs → (∀ j, j < fs.length → σ (i + j) = strV (tailS (fs.drop j) t)) → (tailS fs t).length < 4294967281 →
    ∀ r ∈ krCutsT ta i l, KRow Tryz.prog gl σ r.f r.args r.img tabV
  | [], _, _, _, _, _, r, hr => by cases hr
  | a :: l, [], _, h, _, _, _, _ => h.elim
  | a :: l, f :: fs, i, ⟨hf, hl⟩, hσ, hlen, r, hr => by
    have hi : σ i = strV (f ++ 32 :: tailS fs t) := hσ 0 (by simp)
    have hfl : (f ++ 32 :: tailS fs t).length < 4294967281 := hlen
    rcases List.mem_cons.1 hr with rfl | hr
    · have key : ∀ nx : AV, plainA nx = true → VR (fun _ => none) σ nx (strV (tailS fs t)) → KRow Tryz.prog gl σ fCut [.sym i, .str [32]] ⟨.tuple [a, nx, .bool true], []⟩ tabV := fun nx hp hv =>
        KRow.ofV glOK gl_bareM hm rfl (va := #[strV (f ++ 32 :: tailS fs t), strV [32]]) ⟨_, _, rfl, ⟨hi.symm, rfl⟩, _, _, rfl, ⟨_, rfl, rfl⟩, rfl⟩ (.inr ⟨_, rfl, by simp [hf.2.1, hp]; rfl⟩) (u := .tuple #[strV f, strV (tailS fs t), .bool true]) ⟨_, rfl, _, _, rfl, hf.2.2.2.2, _, _, rfl, hv, _, _, rfl, rfl, rfl⟩ (c_cut hf.2.2.2.1 hfl)
      cases l with
      | nil =>
        cases fs with
        | nil => exact key ta hta htv
        | cons _ _ => exact hl.elim
      | cons b l =>
        cases fs with
        | nil => exact hl.elim
        | cons g fs =>
          have := hσ 1 (by simp)
          exact key (.sym (i + 1)) rfl ⟨this.symm, rfl⟩
    · have hll : (f ++ 32 :: tailS fs t).length = f.length + ((tailS fs t).length + 1) := by rw [List.length_append, List.length_cons]
      refine krCutsT_ok hm hta htv l fs (i + 1) hl (fun j hj => ?_) (by omega) r hr
      have := hσ (j + 1) (by simp; omega)
      rw [show i + 1 + j = i + (j + 1) by omega]; exact this

section
variable {c : CtxR} (h : c.OK) {m : Int} {E : Env} (ht : E.ty = E0.ty)
include h ht
omit h in
theorem conv_ok {a v : AV} {σ : Nat → Value} {x : Nat} (ha : conc σ a = .int .u32 (x : Int)) (hv : conc σ v = .int .i64 (x : Int)) (hx : x < 4294967296) : RowOK E 9 σ ⟨cv tU32 tInt, [a], v⟩ := by
  refine RowOK.conv (u := tU32) (d := tInt) (k := .u32) (k' := .i64) (n := (x : Int)) ?_ ?_ ha ?_ (by decide)
  · unfold und; rw [ht]; kernel_rfl
  · unfold und; rw [ht]; kernel_rfl
  · rw [hv, wrap64_id (by omega) (by omega)]
theorem orA_ok : ∀ r ∈ orA c.i, RowOK E 9 (withM c.sg m) r := by
  have hl := h.hl
  have hb := h.hb
  have e2 : Nat.mod c.i 2 = c.n % 2 := by show c.n % 4 % 2 = c.n % 2; omega
  intro r hr
  unfold orA at hr
  rw [bif_eq, e2] at hr
  split at hr
  · rename_i hz
    have hz := Nat.eq_of_beq_eq_true hz
    have eA : c.A = 995 + c.l % 10 := by unfold CtxR.A; rw [if_pos hz]
    have eB : c.B = 999995 + c.b % 10 := by unfold CtxR.B; rw [if_pos hz]
    simp only [List.mem_cons, List.mem_nil_iff, or_false] at hr
    rcases hr with rfl | rfl | rfl | rfl | rfl | rfl | rfl | rfl
    · exact conv_ok ht (CtxR.cc (by omega) rfl) (CtxR.cc (by omega) rfl) hl
    · exact conv_ok ht (CtxR.cc (by omega) rfl) (CtxR.cc (by omega) rfl) hb
    · exact RowOK.rem .u32 (x := ((c.l : Nat) : Int)) (y := ((10 : Nat) : Int)) (CtxR.cc (by omega) rfl) rfl (CtxR.cc (by omega) rfl) (by decide) (tmodN _ _)
    · exact conv_ok ht (CtxR.cc (by omega) rfl) (CtxR.cc (by omega) rfl) (by omega)
    · exact RowOK.add64 (x := 995) (y := ((c.l % 10 : Nat) : Int)) (z := ((c.A : Nat) : Int)) rfl (CtxR.cc (by omega) rfl) (CtxR.cc (by omega) rfl) (by rw [eA]; omega) (by omega) (by omega)
    · exact RowOK.rem .u32 (x := ((c.b : Nat) : Int)) (y := ((10 : Nat) : Int)) (CtxR.cc (by omega) rfl) rfl (CtxR.cc (by omega) rfl) (by decide) (tmodN _ _)
    · exact conv_ok ht (CtxR.cc (by omega) rfl) (CtxR.cc (by omega) rfl) (by omega)
    · exact RowOK.add64 (x := 999995) (y := ((c.b % 10 : Nat) : Int)) (z := ((c.B : Nat) : Int)) rfl (CtxR.cc (by omega) rfl) (CtxR.cc (by omega) rfl) (by rw [eB]; omega) (by omega) (by omega)
  · rename_i hz
    have hz : ¬ c.n % 2 = 0 := fun e => hz (by rw [e]; rfl)
    have eA : c.A = c.l := by unfold CtxR.A; rw [if_neg hz]
    have eB : c.B = c.b := by unfold CtxR.B; rw [if_neg hz]
    simp only [List.mem_cons, List.mem_nil_iff, or_false] at hr
    rcases hr with rfl | rfl
    · exact conv_ok ht (CtxR.cc (by omega) rfl) (by rw [← eA]; exact CtxR.cc (by omega) rfl) hl
    · exact conv_ok ht (CtxR.cc (by omega) rfl) (by rw [← eB]; exact CtxR.cc (by omega) rfl) hb
theorem orW_ok : ∀ r ∈ orW c.i c.wr, RowOK E 9 (withM c.sg m) r := by
  have hS := CtxR.S_len h
  have lA := (dec_ok (CtxR.A_lt h)).2
  have lB := (dec_ok (CtxR.B_lt h)).2
  have lP : c.P.length ≤ 60 := pre8_len c.i4
  have c5 : conc (withM c.sg m) (.sym 5) = .str (nats (Lib.decDigits c.A)) := CtxR.cs (by omega) rfl
  have c6 : conc (withM c.sg m) (.sym 6) = .str (nats (Lib.decDigits c.B)) := CtxR.cs (by omega) rfl
  have c20 : conc (withM c.sg m) (.sym 20) = .str (nats (c.P ++ Lib.decDigits c.A)) := CtxR.cs (by omega) rfl
  have c21 : conc (withM c.sg m) (.sym 21) = .str (nats ((c.P ++ Lib.decDigits c.A) ++ [32])) := CtxR.cs (by omega) rfl
  have c22 : conc (withM c.sg m) (.sym 22) = .str (nats (((c.P ++ Lib.decDigits c.A) ++ [32]) ++ Lib.decDigits c.B)) := CtxR.cs (by omega) rfl
  have c23 : conc (withM c.sg m) (.sym 23) = .str (nats ((((c.P ++ Lib.decDigits c.A) ++ [32]) ++ Lib.decDigits c.B) ++ [32])) := CtxR.cs (by omega) rfl
  have c40 : conc (withM c.sg m) (.sym 40) = .str (nats c.S) := by show concS 40 (withM c.sg m 40) = _; rw [CtxR.sg40]; rfl
  have c25 : conc (withM c.sg m) (.sym 25) = .int .i64 (c.S.length : Nat) := CtxR.cc (by omega) rfl
  have c3 : conc (withM c.sg m) (.sym 3) = .int .i64 (c.A : Nat) := CtxR.cc (by omega) rfl
  have c4 : conc (withM c.sg m) (.sym 4) = .int .i64 (c.B : Nat) := CtxR.cc (by omega) rfl
  intro r hr
  simp only [orW, List.mem_cons, List.mem_nil_iff, or_false] at hr
  rcases hr with rfl | rfl | rfl | rfl | rfl | rfl | rfl | rfl | rfl | rfl | rfl | rfl | rfl
  · exact RowOK.rem .u8 (x := ((c.n : Nat) : Int)) (y := ((4 : Nat) : Int)) (CtxR.cc (by omega) rfl) rfl rfl (by decide) (tmodN _ _)
  · refine RowOK.rem .u8 (x := ((c.n : Nat) : Int)) (y := ((2 : Nat) : Int)) (CtxR.cc (by omega) rfl) rfl rfl (by decide) ?_
    rw [tmodN]
    show ((c.n % 2 : Nat) : Int) = ((c.n % 4 % 2 : Nat) : Int)
    congr 1; omega
  · exact RowOK.cat (p := preR c.i) (q := nats (Lib.decDigits c.A)) (r := nats (c.P ++ Lib.decDigits c.A)) rfl c5 c20 (by rw [nats_append]; unfold CtxR.P; rw [pre8_nats c.i4]) (by rw [nats_len, List.length_append]; omega)
  · exact RowOK.cat (p := nats (c.P ++ Lib.decDigits c.A)) (q := [32]) (r := nats ((c.P ++ Lib.decDigits c.A) ++ [32])) c20 rfl c21 (nats_append _ [32]).symm (by rw [nats_len]; simp only [List.length_append, List.length_singleton]; omega)
  · exact RowOK.cat (p := nats ((c.P ++ Lib.decDigits c.A) ++ [32])) (q := nats (Lib.decDigits c.B)) (r := nats (((c.P ++ Lib.decDigits c.A) ++ [32]) ++ Lib.decDigits c.B)) c21 c6 c22 (nats_append _ _).symm (by rw [nats_len]; simp only [List.length_append, List.length_singleton]; omega)
  · exact RowOK.cat (p := nats (((c.P ++ Lib.decDigits c.A) ++ [32]) ++ Lib.decDigits c.B)) (q := [32]) (r := nats ((((c.P ++ Lib.decDigits c.A) ++ [32]) ++ Lib.decDigits c.B) ++ [32])) c22 rfl c23 (nats_append _ [32]).symm (by rw [nats_len]; simp only [List.length_append, List.length_singleton]; omega)
  · exact RowOK.cat (p := nats ((((c.P ++ Lib.decDigits c.A) ++ [32]) ++ Lib.decDigits c.B) ++ [32])) (q := txtR c.wr) (r := nats c.S) c23 rfl c40 (by rw [← t8_nats, ← nats_append, CtxR.P_S]) (by rw [nats_len]; omega)
  · exact RowOK.len (typ9 ht) (x := nats c.S) c40 (by rw [c25, nats_len]; rfl)
  · exact RowOK.cmp .i64 (x := ((c.S.length : Nat) : Int)) (y := 8192) c25 rfl (.inr (.inr (.inr (.inr (.inl ⟨rfl, by symm; rw [decide_eq_false_iff_not]; omega⟩)))))
  · exact RowOK.seq (p := nats (Lib.decDigits c.A)) (q := nats (Lib.decDigits c.A)) c5 c5 (.inl ⟨rfl, by simp⟩)
  · exact RowOK.seq (p := nats (Lib.decDigits c.B)) (q := nats (Lib.decDigits c.B)) c6 c6 (.inl ⟨rfl, by simp⟩)
  · exact RowOK.cmp .i64 (x := ((c.A : Nat) : Int)) (y := 0) c3 rfl (.inr (.inr (.inr (.inr (.inr ⟨rfl, by symm; rw [decide_eq_true_eq]; omega⟩)))))
  · exact RowOK.cmp .i64 (x := ((c.B : Nat) : Int)) (y := 0) c4 rfl (.inr (.inr (.inr (.inr (.inr ⟨rfl, by symm; rw [decide_eq_true_eq]; omega⟩)))))
omit h ht in
theorem orG_ok {ga gb : Bool} (e1 : ga = decide (1000 < c.A)) (e2 : gb = decide (1000000 < c.B)) : ∀ r ∈ orG ga gb, RowOK E 9 (withM c.sg m) r := by
  have c3 : conc (withM c.sg m) (.sym 3) = .int .i64 (c.A : Nat) := CtxR.cc (by omega) rfl
  have c4 : conc (withM c.sg m) (.sym 4) = .int .i64 (c.B : Nat) := CtxR.cc (by omega) rfl
  intro r hr
  simp only [orG, List.mem_cons, List.mem_nil_iff, or_false] at hr
  rcases hr with rfl | rfl
  · exact RowOK.cmp .i64 (x := ((c.A : Nat) : Int)) (y := 1000) c3 rfl (.inr (.inr (.inr (.inr (.inl ⟨rfl, by rw [e1, decide_eq_decide]; omega⟩)))))
  · exact RowOK.cmp .i64 (x := ((c.B : Nat) : Int)) (y := 1000000) c4 rfl (.inr (.inr (.inr (.inr (.inl ⟨rfl, by rw [e2, decide_eq_decide]; omega⟩)))))
omit h ht in
theorem orZ_ok {za zb ob lt : Bool} (e1 : za = decide (c.A = 0)) (e2 : zb = decide (c.B = 0)) (e3 : ob = decide (c.B = 1)) (e4 : lt = decide (c.B < 2)) : ∀ r ∈ orZ za zb ob lt, RowOK E 9 (withM c.sg m) r := by
  have c3 : conc (withM c.sg m) (.sym 3) = .int .i64 (c.A : Nat) := CtxR.cc (by omega) rfl
  have c4 : conc (withM c.sg m) (.sym 4) = .int .i64 (c.B : Nat) := CtxR.cc (by omega) rfl
  intro r hr
  simp only [orZ, List.mem_cons, List.mem_nil_iff, or_false] at hr
  rcases hr with rfl | rfl | rfl | rfl | rfl | rfl | rfl
  · exact RowOK.cmp .i64 (x := 0) (y := ((c.B : Nat) : Int)) rfl c4 (.inl ⟨rfl, by rw [e2, decide_eq_decide]; omega⟩)
  · exact RowOK.cmp .i64 (x := 1) (y := ((c.B : Nat) : Int)) rfl c4 (.inl ⟨rfl, by rw [e3, decide_eq_decide]; omega⟩)
  · exact RowOK.cmp .i64 (x := 0) (y := ((c.A : Nat) : Int)) rfl c3 (.inl ⟨rfl, by rw [e1, decide_eq_decide]; omega⟩)
  · exact RowOK.cmp .i64 (x := ((c.A : Nat) : Int)) (y := 0) c3 rfl (.inl ⟨rfl, by rw [e1, decide_eq_decide]; omega⟩)
  · exact RowOK.cmp .i64 (x := ((c.B : Nat) : Int)) (y := 0) c4 rfl (.inl ⟨rfl, by rw [e2, decide_eq_decide]; omega⟩)
  · exact RowOK.cmp .i64 (x := ((c.B : Nat) : Int)) (y := 2) c4 rfl (.inr (.inr (.inl ⟨rfl, by rw [e4, decide_eq_decide]; omega⟩)))
  · refine RowOK.cmp .i64 (x := ((c.A : Nat) : Int)) (y := 0) c3 rfl (.inr (.inr (.inr (.inr (.inl ⟨rfl, ?_⟩)))))
    rw [e1, ← decide_not, decide_eq_decide]; omega
end
section
variable {c : CtxR} (h : c.OK) {m : Int}
include h
theorem krR_ok : ∀ r ∈ krR c.i c.wr, KRow Tryz.prog gl (withM c.sg m) r.f r.args r.img tabV := by
  have hS := CtxR.S_len h
  have num : ∀ {i j x : Nat}, x < 4294967296 → withM c.sg m i = .int .i64 (x : Int) → withM c.sg m j = strV (Lib.decDigits x) → KRow Tryz.prog gl (withM c.sg m) fItoa [.sym i] ⟨.sym j, []⟩ tabV ∧ KRow Tryz.prog gl (withM c.sg m) fAtoi [.sym j] ⟨.tuple [.sym i, .nilIface], []⟩ tabV := by
    intro i j x hx hi hj
    refine ⟨KRow.ofV glOK gl_bareM (withM_kM _ _) rfl (va := #[.int .i64 (x : Int)]) ⟨_, _, rfl, ⟨hi.symm, rfl⟩, rfl⟩ (.inl rfl) (u := strV (Lib.decDigits x)) ⟨hj.symm, rfl⟩ (c_itoa x (by omega)).g, ?_⟩
    exact KRow.ofV glOK gl_bareM (withM_kM _ _) rfl (va := #[strV (Lib.decDigits x)]) ⟨_, _, rfl, ⟨hj.symm, rfl⟩, rfl⟩ (.inr ⟨_, rfl, rfl⟩) (u := .tuple #[.int .i64 (x : Int), .nilIface]) ⟨_, rfl, _, _, rfl, ⟨hi.symm, rfl⟩, _, _, rfl, rfl, rfl⟩
      (c_atoi (Lib.decDigits x) _ (by have := (dec_ok hx).2; omega) (by
        have := atoi_pad (u := x) (Nat.le_refl (Lib.nDigits x)) (by have := nDigits_le 9 x (by omega); omega)
        rwa [pad_self] at this)).g
  have nA := num (i := 3) (j := 5) (CtxR.A_lt h) (CtxR.sg_lt (by omega)) (CtxR.sg_lt (by omega))
  have nB := num (i := 4) (j := 6) (CtxR.B_lt h) (CtxR.sg_lt (by omega)) (CtxR.sg_lt (by omega))
  intro r hr
  unfold krR at hr
  rcases List.mem_append.1 hr with hr | hr
  · simp only [List.mem_cons, List.mem_nil_iff, or_false] at hr
    rcases hr with rfl | rfl | rfl | rfl
    · exact nA.1
    · exact nB.1
    · exact nA.2
    · exact nB.2
  · exact krCutsT_ok (withM_kM _ _) (t := t8 c.wr) (ta := .str (txtR c.wr)) rfl ⟨_, rfl, t8_nats c.wr⟩ (fieldsR c.i) c.F 40 (CtxR.flds h) (fun j hj => CtxR.sg_cut (Nat.le_of_lt hj)) (by show c.S.length < _; omega) r hr
def ERk (i : Nat) (wr : Bool) (o : List OR) : Env := EV.ask 9 (orA i ++ (orW i wr ++ o)) (memoOr memoIn (memoOr (memoI gl tabs20) (memoK gl (krR i wr))))
theorem range_row {o : List OR} (run : runR c.i c.wr o = true) (ho : ∀ E : Env, E.ty = E0.ty → ∀ r ∈ o, RowOK E 9 (withM c.sg m) r) : PRow Tryz.prog gl (withM c.sg m) fServerRange (argR c.wr) (.bool true) tabV := by
  have e : ERg c.i c.wr o = ERk c.i c.wr o := by unfold ERg ERk; rw [Env.askH_eq, memoKH_eq]
  unfold runR at run
  rw [e] at run
  refine PRow.ofGr (E := ERk c.i c.wr o) (EnvS.ask envV fun r hr => ?_) (MemoOK.or (E := ERk c.i c.wr o) (memoIn_ok (E := ERk c.i c.wr o) rfl (withM_kM _ _)) (MemoOK.or (E := ERk c.i c.wr o) (tabs_ok (E := ERk c.i c.wr o) rfl _) (MemoOK.ofK (E := ERk c.i c.wr o) (krR_ok h)))) run
  rcases List.mem_append.1 hr with hr | hr
  · exact orA_ok (E := ERk c.i c.wr o) h rfl r hr
  rcases List.mem_append.1 hr with hr | hr
  · exact orW_ok (E := ERk c.i c.wr o) h rfl r hr
  · exact ho (ERk c.i c.wr o) rfl r hr
theorem range_all : PRow Tryz.prog gl (withM c.sg m) fServerRange (argR c.wr) (.bool true) tabV := by
  have hi4 := c.i4
  have m4 : ∀ r, r < 4 → r ∈ four := by decide
  cases hw : c.wr with
  | true =>
    have := range_row h (m := m) (o := []) (by rw [hw]; exact allB_spec runRw c.i (m4 _ hi4)) (fun E _ r hr => by cases hr)
    rwa [hw] at this
  | false =>
    rw [← hw]
    have hev : c.n % 2 = 0 → 995 ≤ c.A ∧ 999995 ≤ c.B := fun e => by unfold CtxR.A CtxR.B; rw [if_pos e, if_pos e]; omega
    have e2 : c.i % 2 = c.n % 2 := by show c.n % 4 % 2 = c.n % 2; omega
    by_cases ga : 1000 < c.A
    · have hr := allB_spec runRa c.i (m4 _ hi4)
      rw [Bool.and_eq_true] at hr
      by_cases gb : 1000000 < c.B
      · exact range_row h (by rw [hw]; exact hr.1) (fun E _ => orG_ok (decide_eq_true ga).symm (decide_eq_true gb).symm)
      · exact range_row h (by rw [hw]; exact hr.2) (fun E _ => orG_ok (decide_eq_true ga).symm (decide_eq_false gb).symm)
    by_cases gb : 1000000 < c.B
    · exact range_row h (by rw [hw]; exact allB_spec runRb c.i (m4 _ hi4)) (fun E _ => orG_ok (decide_eq_false ga).symm (decide_eq_true gb).symm)
    have fin : ∀ {za zb ob lt : Bool}, runR c.i false (orG false false ++ orZ za zb ob lt) = true → za = decide (c.A = 0) → zb = decide (c.B = 0) → ob = decide (c.B = 1) → lt = decide (c.B < 2) → PRow Tryz.prog gl (withM c.sg m) fServerRange (argR c.wr) (.bool true) tabV := by
      intro za zb ob lt run q1 q2 q3 q4
      refine range_row h (by rw [hw]; exact run) (fun E _ r hr => ?_)
      rcases List.mem_append.1 hr with hr | hr
      · exact orG_ok (decide_eq_false ga).symm (decide_eq_false gb).symm r hr
      · exact orZ_ok q1 q2 q3 q4 r hr
    have T : ∀ {p : Prop} [Decidable p], p → true = decide p := fun hp => (decide_eq_true hp).symm
    have N : ∀ {p : Prop} [Decidable p], ¬ p → false = decide p := fun hp => (decide_eq_false hp).symm
    have cases4 : c.i = 0 ∨ c.i = 1 ∨ c.i = 2 ∨ c.i = 3 := by omega
    rcases cases4 with hi | hi | hi | hi
    · obtain ⟨h1, h2⟩ := hev (by omega)
      exact fin (by rw [hi]; exact runR0) (N (by omega)) (N (by omega)) (N (by omega)) (N (by omega))
    · by_cases z1 : c.A = 0 <;> by_cases z2 : c.B = 0
      · exact fin (by rw [hi]; exact runR1f) (T z1) (T z2) (N (by omega)) (T (by omega))
      · by_cases z3 : c.B = 1
        · exact fin (by rw [hi]; exact runR1e) (T z1) (N z2) (T z3) (T (by omega))
        · exact fin (by rw [hi]; exact runR1d) (T z1) (N z2) (N z3) (N (by omega))
      · exact fin (by rw [hi]; exact runR1c) (N z1) (T z2) (N (by omega)) (T (by omega))
      · by_cases z3 : c.B = 1
        · exact fin (by rw [hi]; exact runR1b) (N z1) (N z2) (T z3) (T (by omega))
        · exact fin (by rw [hi]; exact runR1a) (N z1) (N z2) (N z3) (N (by omega))
    · obtain ⟨h1, h2⟩ := hev (by omega)
      exact fin (by rw [hi]; exact runR2) (N (by omega)) (N (by omega)) (N (by omega)) (N (by omega))
    · by_cases z1 : c.A = 0 <;> by_cases z2 : c.B = 0
      · exact fin (by rw [hi]; exact runR3f) (T z1) (T z2) (N (by omega)) (T (by omega))
      · by_cases z3 : c.B = 1
        · exact fin (by rw [hi]; exact runR3e) (T z1) (N z2) (T z3) (T (by omega))
        · exact fin (by rw [hi]; exact runR3d) (T z1) (N z2) (N z3) (N (by omega))
      · exact fin (by rw [hi]; exact runR3c) (N z1) (T z2) (N (by omega)) (T (by omega))
      · by_cases z3 : c.B = 1
        · exact fin (by rw [hi]; exact runR3b) (N z1) (N z2) (T z3) (T (by omega))
        · exact fin (by rw [hi]; exact runR3a) (N z1) (N z2) (N z3) (N (by omega))
end
end
end Go.Proofs.YtnnhijfbdkokkaaGreatDoor
