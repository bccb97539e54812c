/- A request's bytes, more behind them: the runs on symbols. A request's bytes, more behind them: the rows of the run, and what it comes to. No condition. -/
import Derived.Test.YtgbflpajaihmmaaGreatDoorBd
/-! A request's bytes, more behind them: the runs on symbols. -/
namespace Go.Proofs.YtgbflpajaihmmaaGreatDoor
open Go Go.Eng Go.RowKit
noncomputable section
set_option maxRecDepth 100000

def orS (k l : Nat) : List OR :=
  [⟨20, [.sym 7], .sym 29⟩, ⟨20, [.sym 8], .sym 26⟩, ⟨0, [.sym 29, .sym 26], .sym 30⟩, ⟨15, [.sym 30, .int .i64 500], .bool false⟩, ⟨4, [.sym 0, .int .u8 4], .int .u8 (Int.ofNat k)⟩, ⟨4, [.sym 1, .int .u8 6], .int .u8 (Int.ofNat l)⟩, ⟨20, [.sym 31], .sym 28⟩, ⟨15, [.sym 28, .int .i64 8192], .bool false⟩,
   ⟨0, [.sym 31, .sym 8], .sym 70⟩, ⟨20, [.sym 70], .sym 27⟩, ⟨15, [.sym 27, .int .i64 8192], .bool false⟩, ⟨0, [.sym 7, .sym 8], .sym 9⟩, ⟨11, [.sym 9, .sym 9], .bool true⟩] ++ (catR ((daysOf k).map orDay) ++ catR ((numsOf k).map orNum))
def krS (k l : Nat) : List KR := krCuts 7 31 (fieldsA k l) ++ (krCuts 9 70 (fieldsA k l) ++ (catK ((daysOf k).map krDay) ++ catK ((numsOf k).map krNum)))
def mmS' (k l : Nat) : FuncId → List AV → St → Option (AV × St) := memoOr (memoI gl [(24, yes)]) (memoOr (memoJ 33 [32] (jrB k l)) (memoK gl (krS k l)))
def ES (k l : Nat) : Env := EV.ask 9 (orS k l) (mmS' k l)
def ESH (k l : Nat) : Env := EV.askH 9 (orS k l) (memoOr (memoI gl [(24, yes)]) (memoOr (memoJ 33 [32] (jrB k l)) (memoKH gl (krS k l))))
theorem ESH_eq (k l : Nat) : ESH k l = ES k l := by
  unfold ESH ES mmS'
  rw [Env.askH_eq, memoKH_eq]
theorem runS0 : allB (fun l => rowRunG (ESH 0 l) gl 11 [qA, .sym 8] 1000 (.bool true)) locs6 = true := by kernel_rfl
theorem runS1 : allB (fun l => rowRunG (ESH 1 l) gl 11 [qA, .sym 8] 1000 (.bool true)) locs6 = true := by kernel_rfl
theorem runS2 : allB (fun l => rowRunG (ESH 2 l) gl 11 [qA, .sym 8] 3000 (.bool true)) locs6 = true := by kernel_rfl
theorem runS3 : allB (fun l => rowRunG (ESH 3 l) gl 11 [qA, .sym 8] 1000 (.bool true)) locs6 = true := by kernel_rfl
theorem runS {k l : Nat} (hk : k < 4) (hl : l < 6) : ∃ n, rowRunG (ES k l) gl 11 [qA, .sym 8] n (.bool true) = true := by
  have hm : l ∈ locs6 := by
    have : ∀ r, r < 6 → r ∈ locs6 := by decide
    exact this l hl
  rw [← ESH_eq]
  match k, hk with
  | 0, _ => exact ⟨_, allB_spec runS0 l hm⟩
  | 1, _ => exact ⟨_, allB_spec runS1 l hm⟩
  | 2, _ => exact ⟨_, allB_spec runS2 l hm⟩
  | 3, _ => exact ⟨_, allB_spec runS3 l hm⟩
/-- It is too long. -/
def orSX : List OR := [⟨20, [.sym 7], .sym 29⟩, ⟨20, [.sym 8], .sym 26⟩, ⟨0, [.sym 29, .sym 26], .sym 30⟩, ⟨15, [.sym 30, .int .i64 500], .bool true⟩]
def ESX : Env := EV.ask 9 orSX (memoI gl [(24, yes)])
theorem runSX : rowRunG ESX gl 11 [qA, .sym 8] 1000 (.bool true) = true := by kernel_rfl
end
end Go.Proofs.YtgbflpajaihmmaaGreatDoor

/-! A request's bytes, more behind them: the rows of the run, and what it comes to. -/
namespace Go.Proofs.YtgbflpajaihmmaaGreatDoor
open Go Go.Eng Go.RowKit
noncomputable section
set_option maxRecDepth 100000

section
variable {c : Ctx} (h : c.OK) (ho : c.mo.length ≤ 500) (h5 : c.t.length + c.mo.length ≤ 500) {m : Int} {E : Env} (ht : E.ty = E0.ty)
include h ht ho h5
theorem orS_ok : ∀ r ∈ orS c.k c.l, RowOK E 9 (withM c.sg m) r := by
  have c7 : conc (withM c.sg m) (.sym 7) = .str (nats c.t) := by show concS 7 (withM c.sg m 7) = _; rw [Ctx.sg7]; rfl
  have c8 : conc (withM c.sg m) (.sym 8) = .str (nats c.mo) := by show concS 8 (withM c.sg m 8) = _; rw [Ctx.sg8]; rfl
  have c9 : conc (withM c.sg m) (.sym 9) = .str (nats (c.t ++ c.mo)) := by show concS 9 (withM c.sg m 9) = _; rw [Ctx.sg9]; rfl
  have c31 : conc (withM c.sg m) (.sym 31) = .str (nats c.S) := by show concS 31 (withM c.sg m 31) = _; rw [Ctx.sg31]; rfl
  have c70 : conc (withM c.sg m) (.sym 70) = .str (nats (c.S ++ c.mo)) := by show concS 70 (withM c.sg m 70) = _; rw [Ctx.sg70]; rfl
  have c26 : conc (withM c.sg m) (.sym 26) = .int .i64 (c.mo.length : Nat) := by show concS 26 (withM c.sg m 26) = _; rw [Ctx.sg_lt (by omega)]; rfl
  have c27 : conc (withM c.sg m) (.sym 27) = .int .i64 ((c.S ++ c.mo).length : Nat) := by show concS 27 (withM c.sg m 27) = _; rw [Ctx.sg_lt (by omega)]; rfl
  have c28 : conc (withM c.sg m) (.sym 28) = .int .i64 (c.S.length : Nat) := by show concS 28 (withM c.sg m 28) = _; rw [Ctx.sg_lt (by omega)]; rfl
  have c29 : conc (withM c.sg m) (.sym 29) = .int .i64 (c.t.length : Nat) := by show concS 29 (withM c.sg m 29) = _; rw [Ctx.sg_lt (by omega)]; rfl
  have c30 : conc (withM c.sg m) (.sym 30) = .int .i64 (c.t.length + c.mo.length : Nat) := by show concS 30 (withM c.sg m 30) = _; rw [Ctx.sg_lt (by omega)]; rfl
  have c0 : conc (withM c.sg m) (.sym 0) = .int .u8 (c.a0 : Nat) := by show concS 0 (withM c.sg m 0) = _; rw [Ctx.sg_lt (by omega)]; rfl
  have c1 : conc (withM c.sg m) (.sym 1) = .int .u8 (c.a1 : Nat) := by show concS 1 (withM c.sg m 1) = _; rw [Ctx.sg_lt (by omega)]; rfl
  have hS := Ctx.S_len h
  have hSm : (c.S ++ c.mo).length ≤ 1100 := by rw [List.length_append]; omega
  intro r hr
  unfold orS at hr
  rcases List.mem_append.1 hr with hr | hr
  · simp only [List.mem_cons, List.mem_nil_iff, or_false] at hr
    rcases hr with rfl | rfl | rfl | rfl | rfl | rfl | rfl | rfl | rfl | rfl | rfl | rfl | rfl
    · exact RowOK.len (typ9 ht) (x := nats c.t) c7 (by rw [c29, nats_len]; rfl)
    · exact RowOK.len (typ9 ht) (x := nats c.mo) c8 (by rw [c26, nats_len]; rfl)
    · exact RowOK.add64 (x := ((c.t.length : Nat) : Int)) (y := ((c.mo.length : Nat) : Int)) c29 c26 c30 (by omega) (by omega) (by omega)
    · exact RowOK.cmp .i64 (x := ((c.t.length + c.mo.length : Nat) : Int)) (y := 500) c30 rfl (.inr (.inr (.inr (.inr (.inl ⟨rfl, by symm; rw [decide_eq_false_iff_not]; omega⟩)))))
    · exact RowOK.rem .u8 (x := ((c.a0 : Nat) : Int)) (y := ((4 : Nat) : Int)) c0 rfl rfl (by decide) (tmodN _ _)
    · exact RowOK.rem .u8 (x := ((c.a1 : Nat) : Int)) (y := ((6 : Nat) : Int)) c1 rfl rfl (by decide) (tmodN _ _)
    · exact RowOK.len (typ9 ht) (x := nats c.S) c31 (by rw [c28, nats_len]; rfl)
    · exact RowOK.cmp .i64 (x := ((c.S.length : Nat) : Int)) (y := 8192) c28 rfl (.inr (.inr (.inr (.inr (.inl ⟨rfl, by symm; rw [decide_eq_false_iff_not]; omega⟩)))))
    · exact RowOK.cat (p := nats c.S) (q := nats c.mo) (r := nats (c.S ++ c.mo)) c31 c8 c70 (nats_append _ _).symm (by rw [nats_len]; omega)
    · exact RowOK.len (typ9 ht) (x := nats (c.S ++ c.mo)) c70 (by rw [c27, nats_len]; rfl)
    · exact RowOK.cmp .i64 (x := (((c.S ++ c.mo).length : Nat) : Int)) (y := 8192) c27 rfl (.inr (.inr (.inr (.inr (.inl ⟨rfl, by symm; rw [decide_eq_false_iff_not]; omega⟩)))))
    · exact RowOK.cat (p := nats c.t) (q := nats c.mo) (r := nats (c.t ++ c.mo)) c7 c8 c9 (nats_append _ _).symm (by rw [nats_len, List.length_append]; omega)
    · exact RowOK.seq (p := nats (c.t ++ c.mo)) (q := nats (c.t ++ c.mo)) c9 c9 (.inl ⟨rfl, by simp⟩)
  · rcases List.mem_append.1 hr with hr | hr
    · obtain ⟨x, hx, hr⟩ := catR_mem hr
      obtain ⟨j, hj, rfl⟩ := List.mem_map.1 hx
      exact orDay_ok ht (days3 c.k4 hj) r hr
    · obtain ⟨x, hx, hr⟩ := catR_mem hr
      obtain ⟨j, hj, rfl⟩ := List.mem_map.1 hx
      exact orNum_ok h ht (nums2 c.k4 hj) r hr
end

section
variable {c : Ctx} (h : c.OK) (ho : c.mo.length ≤ 500) (h5 : c.t.length + c.mo.length ≤ 500) {m : Int}
include h ho
theorem krS_ok : ∀ r ∈ krS c.k c.l, KRow Tryz.prog gl (withM c.sg m) r.f r.args r.img tabV := by
  intro r hr
  unfold krS at hr
  have hS := Ctx.S_len h
  have hSm : (tailS c.F (c.t ++ c.mo)).length ≤ 1100 := by rw [Ctx.tailS_app, List.length_append]; show c.S.length + _ ≤ _; omega
  rcases List.mem_append.1 hr with hr | hr
  · exact krCuts_ok (withM_kM _ _) Ctx.sg7 (fieldsA c.k c.l) c.F 31 (Ctx.flds h) (fun j hj => Ctx.sg_cut (by omega)) (by show c.S.length < _; omega) r hr
  · rcases List.mem_append.1 hr with hr | hr
    · exact krCuts_ok (withM_kM _ _) Ctx.sg9 (fieldsA c.k c.l) c.F 70 (Ctx.flds h) (fun j hj => Ctx.sg_cut2 (by omega)) (by omega) r hr
    · rcases List.mem_append.1 hr with hr | hr
      · obtain ⟨x, hx, hr⟩ := catK_mem hr
        obtain ⟨j, hj, rfl⟩ := List.mem_map.1 hx
        exact krDay_ok h (days3 c.k4 hj) r hr
      · obtain ⟨x, hx, hr⟩ := catK_mem hr
        obtain ⟨j, hj, rfl⟩ := List.mem_map.1 hx
        exact krNum_ok h (nums2 c.k4 hj) r hr
include h5
theorem rest_row : PRow Tryz.prog gl (withM c.sg m) 11 [qA, .sym 8] (.bool true) tabV := by
  have ok : EnvS (ES c.k c.l) (withM c.sg m) := EnvS.ask envV (orS_ok h ho h5 (E := ES c.k c.l) rfl)
  have mo : MemoOK (ES c.k c.l) (withM c.sg m) := by
    refine MemoOK.or (E := ES c.k c.l) (MemoOK.ofI (E := ES c.k c.l) ?_ _) (MemoOK.or (E := ES c.k c.l) (memoJ_ok (E := ES c.k c.l) (sep := ⟨#[32]⟩) (jrB_ok h)) (MemoOK.ofK (E := ES c.k c.l) (krS_ok h ho)))
    intro x hx
    simp only [List.mem_cons, List.mem_nil_iff, or_false] at hx
    subst hx
    exact know19
  obtain ⟨n, hrun⟩ := runS c.k4 c.l6
  exact PRow.ofGr ok mo hrun
end

/-! ### It is too long -/
theorem rest_row_X {c : Ctx} {m : Int} (hl : 500 < c.t.length + c.mo.length) (hb : c.t.length + c.mo.length < 9223372036854775808) : PRow Tryz.prog gl (withM c.sg m) 11 [qA, .sym 8] (.bool true) tabV := by
  have c7 : conc (withM c.sg m) (.sym 7) = .str (nats c.t) := by show concS 7 (withM c.sg m 7) = _; rw [Ctx.sg7]; rfl
  have c8 : conc (withM c.sg m) (.sym 8) = .str (nats c.mo) := by show concS 8 (withM c.sg m 8) = _; rw [Ctx.sg8]; rfl
  have c26 : conc (withM c.sg m) (.sym 26) = .int .i64 (c.mo.length : Nat) := by show concS 26 (withM c.sg m 26) = _; rw [Ctx.sg_lt (by omega)]; rfl
  have c29 : conc (withM c.sg m) (.sym 29) = .int .i64 (c.t.length : Nat) := by show concS 29 (withM c.sg m 29) = _; rw [Ctx.sg_lt (by omega)]; rfl
  have c30 : conc (withM c.sg m) (.sym 30) = .int .i64 (c.t.length + c.mo.length : Nat) := by show concS 30 (withM c.sg m 30) = _; rw [Ctx.sg_lt (by omega)]; rfl
  refine PRow.ofGr (E := ESX) (EnvS.ask envV ?_) (MemoOK.ofI (E := ESX) ?_ _) runSX
  · intro r hr
    simp only [orSX, List.mem_cons, List.mem_nil_iff, or_false] at hr
    rcases hr with rfl | rfl | rfl | rfl
    · exact RowOK.len (typ9 rfl) (x := nats c.t) c7 (by rw [c29, nats_len]; rfl)
    · exact RowOK.len (typ9 rfl) (x := nats c.mo) c8 (by rw [c26, nats_len]; rfl)
    · exact RowOK.add64 (x := ((c.t.length : Nat) : Int)) (y := ((c.mo.length : Nat) : Int)) c29 c26 c30 (by omega) (by omega) (by omega)
    · exact RowOK.cmp .i64 (x := ((c.t.length + c.mo.length : Nat) : Int)) (y := 500) c30 rfl (.inr (.inr (.inr (.inr (.inl ⟨rfl, by symm; rw [decide_eq_true_eq]; omega⟩)))))
  · intro x hx
    simp only [List.mem_cons, List.mem_nil_iff, or_false] at hx
    subst hx
    exact know19
end
end Go.Proofs.YtgbflpajaihmmaaGreatDoor
