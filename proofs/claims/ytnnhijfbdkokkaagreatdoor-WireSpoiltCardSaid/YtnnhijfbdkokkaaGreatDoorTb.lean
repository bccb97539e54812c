/- A request's bytes, something else in the place of something: what the symbols stand for; WireSpoilt answers true at every input, where the listed variables read as the program lays them: the walk. Condition: the row's own. -/
import Derived.Test.YtnnhijfbdkokkaaGreatDoorTa
import Derived.Carry
namespace Go.Proofs.YtnnhijfbdkokkaaGreatDoor
open Go Go.Eng Go.ChangeShapes Go.WideShapes Go.ChangeAt Go.RowKit
set_option maxRecDepth 100000
noncomputable section

structure CtxT where
  a0 : Nat
  a1 : Nat
  s : Nat → Nat
  b : Nat → Nat
  D : Nat → List UInt8
  t : List UInt8
  mo : List UInt8
  p : Nat
  c : Nat
namespace CtxT
variable (x : CtxT)
def k : Nat := x.a0 % 4
def l : Nat := x.a1 % 6
def N (j : Nat) : List UInt8 := Lib.decDigits (x.b j)
def F : List (List UInt8) := pick [] [[wd 0, lo x.l, x.D 0], [wd 1, lo x.l], [wd 2, lo x.l, x.D 0, x.D 1, x.D 2, x.N 0, x.N 1], [wd 3]] x.k
def S : List UInt8 := tailS x.F x.t
def n : Nat := x.S.length
def i : Nat := x.p % (x.n + 1)
def e : Nat := if x.n < x.i + x.c % 6 then x.n else x.i + x.c % 6
/-- What becomes of the bytes. -/
def R : List UInt8 := (x.S.take x.i ++ x.mo) ++ x.S.drop x.e
def zz : Nat → Value
  | 100 => .int .u8 (x.a0 : Nat)
  | 101 => .int .u8 (x.a1 : Nat)
  | 102 => .int .u32 (x.s 0 : Nat)
  | 103 => .int .u32 (x.s 1 : Nat)
  | 104 => .int .u32 (x.s 2 : Nat)
  | 105 => .int .u32 (x.b 0 : Nat)
  | 106 => .int .u32 (x.b 1 : Nat)
  | 107 => strV x.t
  | 110 => .int .u32 (x.s 0 % 3652059 : Nat)
  | 111 => .int .i64 (x.s 0 % 3652059 : Nat)
  | 112 => .int .i64 (1 + x.s 0 % 3652059 : Nat)
  | 113 => .int .u32 (x.s 1 % 3652059 : Nat)
  | 114 => .int .i64 (x.s 1 % 3652059 : Nat)
  | 115 => .int .i64 (1 + x.s 1 % 3652059 : Nat)
  | 116 => .int .u32 (x.s 2 % 3652059 : Nat)
  | 117 => .int .i64 (x.s 2 % 3652059 : Nat)
  | 118 => .int .i64 (1 + x.s 2 % 3652059 : Nat)
  | 119 => .int .i64 (x.b 0 : Nat)
  | 120 => .int .i64 (x.b 1 : Nat)
  | 121 => strV (x.D 0)
  | 122 => strV (x.D 1)
  | 123 => strV (x.D 2)
  | 124 => strV (x.N 0)
  | 125 => strV (x.N 1)
  | 129 => .int .i64 (x.t.length : Nat)
  | 131 => strV x.S
  | 140 => .int .u16 (x.p : Nat)
  | 141 => .int .u8 (x.c : Nat)
  | 142 => strV x.mo
  | 143 => .int .i64 (x.mo.length : Nat)
  | 144 => .int .i64 (x.n : Nat)
  | 145 => .int .i64 (x.n + 1 : Nat)
  | 146 => .int .i64 (x.p : Nat)
  | 147 => .int .i64 (x.i : Nat)
  | 148 => strV (x.S.take x.i)
  | 149 => strV (x.S.take x.i ++ x.mo)
  | 150 => .int .u8 (x.c % 6 : Nat)
  | 151 => .int .i64 (x.c % 6 : Nat)
  | 152 => .int .i64 (x.i + x.c % 6 : Nat)
  | 153 => .int .i64 (x.e : Nat)
  | 154 => strV (x.S.drop x.e)
  | _ => .nilIface
structure OK : Prop where
  dt : ∀ j, j < 3 → ∃ y mm d, Dated (1 + x.s j % 3652059) y mm d ∧ x.D j = dayT y mm d
  bt : ∀ j, j < 2 → x.b j < 4294967296
  pt : x.p < 65536
  ct : x.c < 256
variable {x}
theorem k4 : x.k < 4 := Nat.mod_lt _ (by omega)
theorem l6 : x.l < 6 := Nat.mod_lt _ (by omega)
section
variable {name : List UInt8} {fs : List (List UInt8)} {tt : List UInt8} {m : Int}
abbrev sg (x : CtxT) (name : List UInt8) (fs : List (List UInt8)) (tt : List UInt8) (m : Int) : Nat → Value := withM (sgD x.zz x.R name fs tt) m
theorem e102 : ∀ j, j < 3 → x.sg name fs tt m (Nat.add 102 j) = .int .u32 (x.s j : Nat) ∧ x.sg name fs tt m (Nat.add 110 (Nat.mul 3 j)) = .int .u32 (x.s j % 3652059 : Nat) ∧ x.sg name fs tt m (Nat.add 111 (Nat.mul 3 j)) = .int .i64 (x.s j % 3652059 : Nat) ∧ x.sg name fs tt m (Nat.add 112 (Nat.mul 3 j)) = .int .i64 (1 + x.s j % 3652059 : Nat) ∧ x.sg name fs tt m (Nat.add 121 j) = strV (x.D j)
  | 0, _ | 1, _ | 2, _ => ⟨rfl, rfl, rfl, rfl, rfl⟩
theorem e105 : ∀ j, j < 2 → x.sg name fs tt m (Nat.add 105 j) = .int .u32 (x.b j : Nat) ∧ x.sg name fs tt m (Nat.add 119 j) = .int .i64 (x.b j : Nat) ∧ x.sg name fs tt m (Nat.add 124 j) = strV (x.N j)
  | 0, _ | 1, _ => ⟨rfl, rfl, rfl⟩
theorem cI {q : Nat} {kd : IntKind} {z : Int} (h : x.sg name fs tt m q = .int kd z) : conc (x.sg name fs tt m) (.sym q) = .int kd z := by
  show concS _ (x.sg name fs tt m q) = _
  rw [h]; rfl
theorem cS {q : Nat} {l : List UInt8} (h : x.sg name fs tt m q = strV l) : conc (x.sg name fs tt m) (.sym q) = .str (nats l) := by
  show concS _ (x.sg name fs tt m q) = _
  rw [h]; rfl
variable {E : Env} (ht : E.ty = E0.ty)
include ht
theorem day_ok {j : Nat} (hj : j < 3) : ∀ r ∈ orDayQ j, RowOK E 9 (x.sg name fs tt m) r := by
  obtain ⟨e2, e10, e11, e12, _⟩ := e102 (x := x) (name := name) (fs := fs) (tt := tt) (m := m) j hj
  have hN : x.s j % 3652059 < 3652059 := Nat.mod_lt _ (by omega)
  intro r hr
  simp only [orDayQ, List.mem_cons, List.mem_nil_iff, or_false] at hr
  rcases hr with rfl | rfl | rfl
  · exact RowOK.rem .u32 (x := (x.s j : Int)) (y := ((3652059 : Nat) : Int)) (cI e2) rfl (cI e10) (by decide) (tmodN _ _)
  · refine RowOK.conv (u := tU32) (d := tDay) (k := .u32) (k' := .i64) (n := ((x.s j % 3652059 : Nat) : Int)) ?_ ?_ (cI e10) ?_ (by decide)
    · unfold und; rw [ht]; kernel_rfl
    · unfold und; rw [ht]; kernel_rfl
    · rw [cI e11, wrap64_id (by omega) (by omega)]
  · exact RowOK.add64 (x := 1) (y := ((x.s j % 3652059 : Nat) : Int)) rfl (cI e11) (cI e12) (by omega) (by omega) (by omega)
theorem num_ok {j : Nat} (hj : j < 2) (hb : x.b j < 4294967296) : ∀ r ∈ orNumQ j, RowOK E 9 (x.sg name fs tt m) r := by
  obtain ⟨e5, e19, _⟩ := e105 (x := x) (name := name) (fs := fs) (tt := tt) (m := m) j hj
  intro r hr
  simp only [orNumQ, List.mem_cons, List.mem_nil_iff, or_false] at hr
  subst hr
  refine RowOK.conv (u := tU32) (d := tInt) (k := .u32) (k' := .i64) (n := (x.b j : Int)) ?_ ?_ (cI e5) ?_ (by decide)
  · unfold und; rw [ht]; kernel_rfl
  · unfold und; rw [ht]; kernel_rfl
  · rw [cI e19, wrap64_id (by omega) (by omega)]
theorem head_ok {tl ml : Bool} (h1 : tl = decide (300 < x.t.length)) (h2 : ml = decide (40 < x.mo.length)) : ∀ r ∈ orHT tl ml, RowOK E 9 (x.sg name fs tt m) r := by
  intro r hr
  simp only [orHT, List.mem_cons, List.mem_nil_iff, or_false] at hr
  rcases hr with rfl | rfl | rfl | rfl
  · exact RowOK.len (typ9 ht) (x := nats x.t) (cS rfl) (by rw [nats_len]; rfl)
  · exact RowOK.cmp .i64 (x := ((x.t.length : Nat) : Int)) (y := 300) rfl rfl (.inr (.inr (.inr (.inr (.inl ⟨rfl, by rw [h1, decide_eq_decide]; omega⟩)))))
  · exact RowOK.len (typ9 ht) (x := nats x.mo) (cS rfl) (by rw [nats_len]; rfl)
  · exact RowOK.cmp .i64 (x := ((x.mo.length : Nat) : Int)) (y := 40) rfl rfl (.inr (.inr (.inr (.inr (.inl ⟨rfl, by rw [h2, decide_eq_decide]; omega⟩)))))
omit ht in
theorem mk_ok : ∀ r ∈ orMT x.k x.l, RowOK E 9 (x.sg name fs tt m) r := by
  intro r hr
  simp only [orMT, List.mem_cons, List.mem_nil_iff, or_false] at hr
  rcases hr with rfl | rfl
  · exact RowOK.rem .u8 (x := ((x.a0 : Nat) : Int)) (y := ((4 : Nat) : Int)) rfl rfl rfl (by decide) (tmodN _ _)
  · exact RowOK.rem .u8 (x := ((x.a1 : Nat) : Int)) (y := ((6 : Nat) : Int)) rfl rfl rfl (by decide) (tmodN _ _)
theorem cut_ok (hp : x.p < 65536) (_ : x.c < 256) (hS : x.S.length ≤ 2000) (hR : x.R.length ≤ 5000) : ∀ r ∈ orCT, RowOK E 9 (x.sg name fs tt m) r := by
  have hn : x.n = x.S.length := rfl
  have hi : x.i ≤ x.n := by have := Nat.mod_lt x.p (show 0 < x.n + 1 by omega); show x.p % (x.n + 1) ≤ _; omega
  have he : x.e ≤ x.n ∧ x.e = if x.n < x.i + x.c % 6 then x.n else x.i + x.c % 6 := ⟨by unfold e; split <;> omega, rfl⟩
  have hl : (x.S.take x.i ++ x.mo).length ≤ x.R.length := by
    have e : x.R.length = (x.S.take x.i ++ x.mo).length + (x.S.drop x.e).length := by unfold R; exact List.length_append
    omega
  have sl : (nats x.S).length = x.n := by rw [nats_len]; rfl
  have et : ∀ k, (nats x.S).take k = nats (x.S.take k) := fun k => by unfold nats; rw [List.map_take]
  have ed : ∀ k, (nats x.S).drop k = nats (x.S.drop k) := fun k => by unfold nats; rw [List.map_drop]
  intro r hr
  simp only [orCT, List.mem_cons, List.mem_nil_iff, or_false] at hr
  rcases hr with rfl | rfl | rfl | rfl | rfl | rfl | rfl | rfl | rfl | rfl | rfl | rfl
  · exact RowOK.len (typ9 ht) (x := nats x.S) (cS rfl) (by rw [nats_len]; rfl)
  · exact RowOK.add64 (x := ((x.n : Nat) : Int)) (y := 1) (z := ((x.n + 1 : Nat) : Int)) rfl rfl rfl (by omega) (by omega) (by omega)
  · refine RowOK.conv (u := tU16) (d := tInt) (k := .u16) (k' := .i64) (n := ((x.p : Nat) : Int)) ?_ ?_ rfl ?_ (by decide)
    · unfold und; rw [ht]; kernel_rfl
    · unfold und; rw [ht]; kernel_rfl
    · rw [wrap64_id (by omega) (by omega)]; rfl
  · exact RowOK.rem .i64 (x := ((x.p : Nat) : Int)) (y := ((x.n + 1 : Nat) : Int)) rfl rfl rfl (by omega) (tmodN _ _)
  · exact RowOK.part (typ9 ht) (a := .sym 131) (x := nats x.S) (lo := 0) (hi := x.i) (cS rfl) (by omega) (by omega) (by rw [List.drop_zero, et, Nat.sub_zero]; exact cS rfl) (.inr (.inr ⟨rfl, rfl, _, .i64, rfl, rfl⟩))
  · exact RowOK.cat (p := nats (x.S.take x.i)) (q := nats x.mo) (r := nats (x.S.take x.i ++ x.mo)) (cS rfl) (cS rfl) (cS rfl) (nats_append _ _).symm (by rw [nats_len]; omega)
  · exact RowOK.rem .u8 (x := ((x.c : Nat) : Int)) (y := ((6 : Nat) : Int)) rfl rfl rfl (by decide) (tmodN _ _)
  · refine RowOK.conv (u := tU8) (d := tInt) (k := .u8) (k' := .i64) (n := ((x.c % 6 : Nat) : Int)) ?_ ?_ rfl ?_ (by decide)
    · unfold und; rw [ht]; kernel_rfl
    · unfold und; rw [ht]; kernel_rfl
    · rw [wrap64_id (by omega) (by omega)]; rfl
  · exact RowOK.add64 (x := ((x.i : Nat) : Int)) (y := ((x.c % 6 : Nat) : Int)) (z := ((x.i + x.c % 6 : Nat) : Int)) rfl rfl rfl (by omega) (by omega) (by omega)
  · refine RowOK.min (k := .i64) (x := ((x.i + x.c % 6 : Nat) : Int)) (y := ((x.n : Nat) : Int)) (z := ((x.e : Nat) : Int)) rfl rfl rfl ?_
    rw [he.2]
    split
    · rename_i h; rw [if_pos (by omega)]
    · rename_i h; rw [if_neg (by omega)]
  · exact RowOK.part (typ9 ht) (a := .sym 131) (x := nats x.S) (lo := x.e) (hi := x.n) (cS rfl) he.1 (by omega) (by rw [ed, List.take_of_length_le (by rw [nats_len, List.length_drop]; omega)]; exact cS rfl) (.inr (.inl ⟨rfl, sl.symm, _, .i64, rfl, rfl⟩))
  · exact RowOK.cat (p := nats (x.S.take x.i ++ x.mo)) (q := nats (x.S.drop x.e)) (r := nats x.R) (cS rfl) (cS rfl) (cS rfl) (nats_append _ _).symm (by rw [nats_len]; omega)
end
section
variable {name : List UInt8} {fs : List (List UInt8)} {tt : List UInt8} {m : Int} (h : x.OK)
include h
theorem kday_ok {j : Nat} (hj : j < 3) : ∀ r ∈ krDayQ j, KRow Tryz.prog gl (x.sg name fs tt m) r.f r.args r.img errV := by
  obtain ⟨_, _, _, e12, e21⟩ := e102 (x := x) (name := name) (fs := fs) (tt := tt) (m := m) j hj
  obtain ⟨y, mm, d, hd, e⟩ := h.dt j hj
  intro r hr
  simp only [krDayQ, List.mem_cons, List.mem_nil_iff, or_false] at hr
  subst hr
  exact KRow.ofC (withM_kM _ _) rfl rfl (va := #[.int .i64 (1 + x.s j % 3652059 : Nat)]) ⟨_, _, rfl, ⟨e12.symm, rfl⟩, rfl⟩ (.inl rfl) (u := strV (x.D j)) ⟨e21.symm, rfl⟩ (by rw [e]; exact CG.e (c_text hd).g)
theorem knum_ok {j : Nat} (hj : j < 2) : ∀ r ∈ krNumQ j, KRow Tryz.prog gl (x.sg name fs tt m) r.f r.args r.img errV := by
  obtain ⟨_, e19, e24⟩ := e105 (x := x) (name := name) (fs := fs) (tt := tt) (m := m) j hj
  have hb := h.bt j hj
  intro r hr
  simp only [krNumQ, List.mem_cons, List.mem_nil_iff, or_false] at hr
  subst hr
  exact KRow.ofC (withM_kM _ _) rfl rfl (va := #[.int .i64 (x.b j : Nat)]) ⟨_, _, rfl, ⟨e19.symm, rfl⟩, rfl⟩ (.inl rfl) (u := strV (Lib.decDigits (x.b j))) ⟨e24.symm, rfl⟩ (CG.e (c_itoa (x.b j) (by omega)).g)
theorem fD {j : Nat} (hj : j < 3) : Fld (x.sg name fs tt m) (.sym (Nat.add 121 j)) (x.D j) := by
  obtain ⟨_, _, _, _, e21⟩ := e102 (x := x) (name := name) (fs := fs) (tt := tt) (m := m) j hj
  obtain ⟨y, mm, d, hd, e⟩ := h.dt j hj
  exact Fld.sym (by rw [e]; exact (dayT_ok hd).1) e21
theorem fN {j : Nat} (hj : j < 2) : Fld (x.sg name fs tt m) (.sym (Nat.add 124 j)) (x.N j) := by
  obtain ⟨_, _, e24⟩ := e105 (x := x) (name := name) (fs := fs) (tt := tt) (m := m) j hj
  exact Fld.sym (dec_ok (h.bt j hj)).1 e24
theorem flds : Flds (x.sg name fs tt m) (fieldsQ x.k x.l) x.F := by
  have hl := l6 (x := x)
  unfold F fieldsQ
  have := k4 (x := x)
  match x.k, this with
  | 0, _ => exact ⟨fW (by omega), fL hl, fD h (j := 0) (by omega), trivial⟩
  | 1, _ => exact ⟨fW (by omega), fL hl, trivial⟩
  | 2, _ => exact ⟨fW (by omega), fL hl, fD h (j := 0) (by omega), fD h (j := 1) (by omega), fD h (j := 2) (by omega), fN h (j := 0) (by omega), fN h (j := 1) (by omega), trivial⟩
  | 3, _ => exact ⟨fW (by omega), trivial⟩
theorem F_ok : (∀ f ∈ x.F, f.length ≤ 10) ∧ x.F.length ≤ 7 := by
  have hw : ∀ k, k < 4 → (wd k).length ≤ 10 := fun k hk => (wd_ok hk).2
  have hl := (lo_ok (l6 (x := x))).2
  have hD : ∀ j, j < 3 → (x.D j).length ≤ 10 := fun j hj => by
    obtain ⟨y, mm, d, hd, e⟩ := h.dt j hj
    rw [e]; exact (dayT_ok hd).2
  have hN : ∀ j, j < 2 → (x.N j).length ≤ 10 := fun j hj => (dec_ok (h.bt j hj)).2
  unfold F
  have := k4 (x := x)
  match x.k, this with
  | 0, _ =>
    refine ⟨fun f hf => ?_, by show 3 ≤ 7; omega⟩
    have hf : f ∈ [wd 0, lo x.l, x.D 0] := hf
    simp only [List.mem_cons, List.mem_nil_iff, or_false] at hf
    rcases hf with rfl | rfl | rfl
    · exact hw 0 (by omega)
    · exact hl
    · exact hD 0 (by omega)
  | 1, _ =>
    refine ⟨fun f hf => ?_, by show 2 ≤ 7; omega⟩
    have hf : f ∈ [wd 1, lo x.l] := hf
    simp only [List.mem_cons, List.mem_nil_iff, or_false] at hf
    rcases hf with rfl | rfl
    · exact hw 1 (by omega)
    · exact hl
  | 2, _ =>
    refine ⟨fun f hf => ?_, by show 7 ≤ 7; omega⟩
    have hf : f ∈ [wd 2, lo x.l, x.D 0, x.D 1, x.D 2, x.N 0, x.N 1] := hf
    simp only [List.mem_cons, List.mem_nil_iff, or_false] at hf
    rcases hf with rfl | rfl | rfl | rfl | rfl | rfl | rfl
    · exact hw 2 (by omega)
    · exact hl
    · exact hD 0 (by omega)
    · exact hD 1 (by omega)
    · exact hD 2 (by omega)
    · exact hN 0 (by omega)
    · exact hN 1 (by omega)
  | 3, _ =>
    refine ⟨fun f hf => ?_, by show 1 ≤ 7; omega⟩
    have hf : f ∈ [wd 3] := hf
    simp only [List.mem_cons, List.mem_nil_iff, or_false] at hf
    subst hf
    exact hw 3 (by omega)
theorem S_le (hT : x.t.length ≤ 300) : x.S.length ≤ 400 := by
  obtain ⟨h1, h2⟩ := F_ok h
  have := tailS_len x.F x.t 10 h1
  have h3 : x.F.length * (10 + 1) ≤ 7 * 11 := Nat.mul_le_mul_right _ h2
  show (tailS x.F x.t).length ≤ _
  omega
end
end CtxT

theorem spoilt_row {x : CtxT} (h : x.OK) (m : Int) : ∃ (name : List UInt8) (fs : List (List UInt8)) (tt : List UInt8), PRow Tryz.prog gl (x.sg name fs tt m) fWireSpoilt argT (.bool true) errV := by
  have row : ∀ {name : List UInt8} {fs : List (List UInt8)} {tt : List UInt8} {o : List OR} {j : List JR} {k : List KR} {n : Nat}, rowRunG (ETs o j k) gl fWireSpoilt argT n (.bool true) = true → (∀ E : Env, E.ty = E0.ty → ∀ r ∈ o, RowOK E 9 (x.sg name fs tt m) r) → (∀ r ∈ j, JRow Tryz.prog (x.sg name fs tt m) fJoin ⟨#[32]⟩ r) → (∀ r ∈ k, KRow Tryz.prog gl (x.sg name fs tt m) r.f r.args r.img errV) → PRow Tryz.prog gl (x.sg name fs tt m) fWireSpoilt argT (.bool true) errV :=
    fun {name fs tt o j k n} run ho hj hk => PRow.ofGr (E := ETs o j k) (EnvS.askM envEe (ho _ rfl) (fun r hr => by cases hr)) (MemoOK.or (E := ETs o j k) (tabs19_ok (E := ETs o j k) rfl _) (MemoOK.or (E := ETs o j k) (memoJ_ok (E := ETs o j k) (sep := ⟨#[32]⟩) hj) (memoKH_ok (E := ETs o j k) rfl hk))) run
  by_cases hb : 300 < x.t.length ∨ 40 < x.mo.length
  · exact ⟨[], [], [], row (runTx (decide (300 < x.t.length)) (decide (40 < x.mo.length)) (by simp only [Bool.or_eq_true, decide_eq_true_eq]; exact hb)) (fun E ht => CtxT.head_ok ht rfl rfl) (fun r hr => by cases hr) (fun r hr => by cases hr)⟩
  have hS := CtxT.S_le h (by omega)
  have hR : x.R.length ≤ 5000 := by
    unfold CtxT.R
    rw [List.length_append, List.length_append, List.length_take, List.length_drop]; omega
  obtain ⟨name, fs, tt, q, hq, hd⟩ := dec_both x.R (by omega)
  have run : runT x.k x.l q = true := by
    have hl := CtxT.l6 (x := x)
    have ml : x.l ∈ locs6 := by
      have : ∀ r, r < 6 → r ∈ locs6 := by decide
      exact this _ hl
    have := CtxT.k4 (x := x)
    match x.k, this with
    | 0, _ => exact allB_spec (allB_spec runT0 _ ml) q (mem5 hq)
    | 1, _ => exact allB_spec (allB_spec runT1 _ ml) q (mem5 hq)
    | 2, _ => exact allB_spec (allB_spec runT2 _ ml) q (mem5 hq)
    | 3, _ => exact allB_spec (allB_spec runT3 _ ml) q (mem5 hq)
  refine ⟨name, fs, tt, row run (fun E ht r hr => ?_) (fun r hr => ?_) fun r hr => ?_⟩
  · unfold orT at hr
    rcases List.mem_append.1 hr with hr | hr
    · exact CtxT.head_ok ht (decide_eq_false (by omega)).symm (decide_eq_false (by omega)).symm r hr
    rcases List.mem_append.1 hr with hr | hr
    · exact CtxT.mk_ok r hr
    rcases List.mem_append.1 hr with hr | hr
    · exact CtxT.cut_ok ht h.pt h.ct (by omega) hR r hr
    rcases List.mem_append.1 hr with hr | hr
    · obtain ⟨y, hy, hr⟩ := catR_mem hr
      obtain ⟨j, hj, rfl⟩ := List.mem_map.1 hy
      exact CtxT.day_ok ht (days3 CtxT.k4 hj) r hr
    rcases List.mem_append.1 hr with hr | hr
    · obtain ⟨y, hy, hr⟩ := catR_mem hr
      obtain ⟨j, hj, rfl⟩ := List.mem_map.1 hy
      have := nums2 CtxT.k4 hj
      exact CtxT.num_ok ht this (h.bt j this) r hr
    · exact eqO_ok r hr
  · simp only [jrT, List.mem_cons, List.mem_nil_iff, or_false] at hr
    subst hr
    exact jrow_ok (CtxT.flds h) rfl rfl (by have := (CtxT.F_ok h).2; omega) (by show x.S.length ≤ _; omega)
  · unfold krT at hr
    rcases List.mem_append.1 hr with hr | hr
    · obtain ⟨y, hy, hr⟩ := catK_mem hr
      obtain ⟨j, hj, rfl⟩ := List.mem_map.1 hy
      exact CtxT.kday_ok h (days3 CtxT.k4 hj) r hr
    rcases List.mem_append.1 hr with hr | hr
    · obtain ⟨y, hy, hr⟩ := catK_mem hr
      obtain ⟨j, hj, rfl⟩ := List.mem_map.1 hy
      exact CtxT.knum_ok h (nums2 CtxT.k4 hj) r hr
    · simp only [decK, List.mem_cons, List.mem_nil_iff, or_false] at hr
      rcases hr with rfl | rfl
      · exact (hd x.zz m).1
      · exact (hd x.zz m).2
end

/-- Whatever the request, WireSpoilt hands back true. -/
theorem spoilt_calls {W : World} (hL : laidMet Tryz.prog Tryz.laid W) (hS : W.ShapedOpen Tryz.prog) {a0 a1 s0 s1 s2 b0 b1 p c : Nat} (h5 : b0 < 4294967296) (h6 : b1 < 4294967296) (hp : p < 65536) (hc : c < 256) {t mo : ByteArray} :
    Calls Tryz.prog fWireSpoilt #[.agg #[.int .u8 a0, .int .u8 a1, .int .u32 s0, .int .u32 s1, .int .u32 s2, .int .u32 b0, .int .u32 b1, .string t], .int .u16 p, .int .u8 c, .string mo] W (fun e W' => e = .returned (.bool true) ∧ Below W.heap.size W W') := by
  obtain ⟨m, hm⟩ := vars_laid hL hS
  have hV := errV_laid hL hS
  have dts : ∀ n : Nat, ∃ D : List UInt8, ∃ y mm d, Dated (1 + n % 3652059) y mm d ∧ D = dayT y mm d := fun n => by
    obtain ⟨y, mm, d, h⟩ := dated (1 + n % 3652059) (by omega) (by have := Nat.mod_lt n (show 0 < 3652059 by omega); omega)
    exact ⟨_, y, mm, d, h, rfl⟩
  obtain ⟨D0, hD0⟩ := dts s0
  obtain ⟨D1, hD1⟩ := dts s1
  obtain ⟨D2, hD2⟩ := dts s2
  let x : CtxT := ⟨a0, a1, fun j => match j with | 0 => s0 | 1 => s1 | _ => s2, fun j => match j with | 0 => b0 | _ => b1, fun j => match j with | 0 => D0 | 1 => D1 | _ => D2, t.data.toList, mo.data.toList, p, c⟩
  have hx : x.OK := ⟨fun j hj => by
    match j, hj with
    | 0, _ => exact hD0
    | 1, _ => exact hD1
    | 2, _ => exact hD2, fun j hj => by
    match j, hj with
    | 0, _ => exact h5
    | 1, _ => exact h6, hp, hc⟩
  obtain ⟨name, fs, tt, row⟩ := spoilt_row hx m
  obtain ⟨ρ, hR⟩ := hm (x.sg name fs tt m) (withM_kM _ _)
  refine (row W _ (errV_hold W hV) ⟨ρ, hR⟩ ⟨_, _, rfl, ⟨_, rfl, _, _, rfl, ⟨rfl, rfl⟩, _, _, rfl, ⟨rfl, rfl⟩, _, _, rfl, ⟨rfl, rfl⟩, _, _, rfl, ⟨rfl, rfl⟩, _, _, rfl, ⟨rfl, rfl⟩, _, _, rfl, ⟨rfl, rfl⟩, _, _, rfl, ⟨rfl, rfl⟩, _, _, rfl, ⟨(strV_eta t).symm, rfl⟩, rfl⟩, _, _, rfl, ⟨rfl, rfl⟩, _, _, rfl, ⟨rfl, rfl⟩, _, _, rfl, ⟨(strV_eta mo).symm, rfl⟩, rfl⟩).mono fun e W' ⟨u, he, hu, hB⟩ => ⟨by rw [he]; exact congrArg Ending.returned hu, hB⟩

theorem small_of_wf {k : IntKind} {z : Int} {n : Nat} (hk : (k = .u8 ∧ n = 256) ∨ (k = .u16 ∧ n = 65536)) (h : (Lit.int k z).wf = true) : ∃ y : Nat, z = y ∧ y < n := by
  simp only [Lit.wf, Bool.and_eq_true, decide_eq_true_eq] at h
  rcases hk with ⟨rfl, rfl⟩ | ⟨rfl, rfl⟩
  · have h0 : (0 : Int) ≤ z := by simpa [IntKind.min, IntKind.signed] using h.1
    have h1 : z ≤ 255 := by simpa [IntKind.max, IntKind.signed, IntKind.bits] using h.2
    exact ⟨z.toNat, by omega, by omega⟩
  · have h0 : (0 : Int) ≤ z := by simpa [IntKind.min, IntKind.signed] using h.1
    have h1 : z ≤ 65535 := by simpa [IntKind.max, IntKind.signed, IntKind.bits] using h.2
    exact ⟨z.toNat, by omega, by omega⟩

theorem spoilt_lifted (os : Os) (started : os.Started) (H : Type) (enc : TypeId × Value → H) :
    ReturnsInHanded {} Tryz.checked os 9 .any (fun w args => (Rows.wireSpoiltSpec.pre enc Tryz.prog Tryz.f9 [] false w args ∧ laidMetH Tryz.prog Tryz.laid w) ∧ sizedMet enc Tryz.prog Tryz.f9 (OpenSpec.ofChange Rows.wireSpoiltSpec) false w args)
      (Rows.wireSpoiltSpec.post enc Tryz.prog Tryz.f9 false true false false) := by
  refine handed_shaped (C := Tryz.checked) (X := fun w _ => laidMetH Tryz.prog Tryz.laid w) (fun _ _ _ hh h => h.of_heap hh) Tryz.own started (by kernel_rfl) Tryz.func9
    (ChangeSpec.witness_shaped (enc := enc) (C := Tryz.checked) (os := os) (X := fun w _ => laidMetH Tryz.prog Tryz.laid w) false (World.laidAll Tryz.prog os Tryz.laid) #[.agg #[.int .u8 0, .int .u8 0, .int .u32 0, .int .u32 0, .int .u32 0, .int .u32 0, .int .u32 0, .string ⟨#[]⟩], .int .u16 0, .int .u8 0, .string ⟨#[]⟩] 8 (World.laidAll_os _ _ _)
      (World.shaped_of_ZipB (by kernel_rfl) (by kernel_rfl)) (by kernel_rfl) (by kernel_rfl) (by kernel_rfl)
      (by rw [MakeChecks.laidMetH_plain _ _ _ (by kernel_rfl)]; exact laidMet_laidAll _ (by kernel_rfl) (by kernel_rfl))) ?_
  intro W base args ds gs before hS hval0 hW hL
  have hval : ∀ (j : Nat) t v, Tryz.f9.params[j]? = some t → args[j]? = some v → Value.okWide Tryz.prog W .any base t v := hval0
  have hW' := hW
  obtain ⟨p, q, hA0, hV, rfl, _, _⟩ := hW
  have hA : DataW.TrodAll enc Tryz.prog W 0 (fun _ => true) true Tryz.f9.params.toList args.toList ds p := hA0
  rw [Tryz.params9] at hA hval
  rw [MakeChecks.laidMetH_plain _ _ _ (by kernel_rfl)] at hL
  obtain ⟨v0, v1, v2, v3, d0, d1, d2, d3, p0, p1, p2, p3, rfl, rfl, rfl, h0, h1, h2, h3⟩ := trodAll_four hA
  obtain ⟨rfl, rfl⟩ := trodVars_none hV
  obtain ⟨a0, a1, s0, s1, s2, b0, b1, t, rfl, w0, w1, w2, w3, w4, w5, w6, w7, rfl, hsame, _⟩ := open_q (hval 0 55 v0 rfl rfl) h0
  obtain ⟨pp, rfl, rfl, rfl, w8⟩ := open_int Tryz.underlying56 (hval 1 56 v1 rfl rfl) h1
  obtain ⟨cc, rfl, rfl, rfl, w9⟩ := open_int Tryz.underlying5 (hval 2 5 v2 rfl rfl) h2
  obtain ⟨mo, rfl, rfl, rfl, w10⟩ := ChangeMaps.open_string Tryz.underlying9 (hval 3 9 v3 rfl rfl) h3
  have e1 : Rows.wireSpoiltSpec.fn H ([d0, .lit (.int .u16 pp), .lit (.int .u8 cc), .lit (.string mo.data.toList)] ++ []) = { results := [.lit (.bool true)], args := [d0, .lit (.int .u16 pp), .lit (.int .u8 cc), .lit (.string mo.data.toList)] } := by simp [Rows.wireSpoiltSpec]
  obtain ⟨a0, rfl, _⟩ := nat_of_wf (.inl rfl) w0
  obtain ⟨a1, rfl, _⟩ := nat_of_wf (.inl rfl) w1
  obtain ⟨s0, rfl, _⟩ := nat_of_wf (.inr rfl) w2
  obtain ⟨s1, rfl, _⟩ := nat_of_wf (.inr rfl) w3
  obtain ⟨s2, rfl, _⟩ := nat_of_wf (.inr rfl) w4
  obtain ⟨b0, rfl, h5⟩ := nat_of_wf (.inr rfl) w5
  obtain ⟨b1, rfl, h6⟩ := nat_of_wf (.inr rfl) w6
  obtain ⟨pp, rfl, hp⟩ := small_of_wf (.inr ⟨rfl, rfl⟩) w8
  obtain ⟨cc, rfl, hc⟩ := small_of_wf (.inl ⟨rfl, rfl⟩) w9
  refine (spoilt_calls hL hS h5 h6 hp hc).mono fun e W' ⟨he, hB⟩ => ?_
  subst he
  refine ⟨_, rfl, _, _, _, [], [], [], hW', ?_, ?_, ?_, hB.frame _, fun h => by cases h⟩
  · rw [e1]; exact trodAll_mk1 (shut_bool Tryz.underlying4 true)
  · rw [e1]; exact trodAll_mk4 (hsame _ _ _ _) (shut_int Tryz.underlying56 w8) (shut_int Tryz.underlying5 w9) (ChangeMaps.shut_string Tryz.underlying9 w10)
  · rw [e1]; rfl
end Go.Proofs.YtnnhijfbdkokkaaGreatDoor
