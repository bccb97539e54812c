/- A day's date by the document: the year is sought by halves, the month one by one. A day's text by the document. A day's text by the document, as a row. lines.All: a line a day. The server's reply to a preview. A region that draws: it reads, makes one call that may write, and reads again. No condition. -/
import Derived.Test.YtjhnpcnamclfbaaGreatDoorMb
import Derived.Test.YtjhnpcnamclfbaaGreatDoorMk
import Derived.Test.YtjhnpcnamclfbaaGreatDoorMn
import Derived.WalkKit
import Derived.WalkSpells
import Derived.BigCall
import Derived.BigGuard
import Derived.Test.YtjhnpcnamclfbaaGreatDoorNc
import Derived.Test.YtjhnpcnamclfbaaGreatDoorZq
import Derived.Test.YtjhnpcnamclfbaaGreatDoorProg
import Derived.StillTail
import Derived.StillTailTactics
/-! A day's date by the document: the year is sought by halves, the month one by one. -/
namespace Go.Proofs.YtjhnpcnamclfbaaGreatDoor
open Go Go.Eng Go.RowKit
noncomputable section
set_option maxRecDepth 100000

/-! The symbols: 0 the day; 10, 11 the least year and the greatest; 12 .. 16 their middle; 20, 100 .. what is left of the year. -/
def ED (o : List OR) (k : List KR) : Env := E0.askM 9 o [] (memoKH gl k)
def ntD : Nat := 49
def keepD : List (Nat × AV) := [(0, .sym 0), (5, .sym 10), (6, .sym 11)]
def thD (lo hi : AV) : List (Nat × AV) := [(0, .sym 0), (10, lo), (11, hi)]
def orD0 : List OR := [⟨13, [.sym 0, .int .i64 1], .bool false⟩, ⟨15, [.sym 0, .int .i64 3652059], .bool false⟩]
def tpD0 : Option (List AItem) := bnd (startM (ED orD0 []) (stOf gl) fDate1 [.sym 0]) (toPat (ED orD0 []) gl [] 2 1000 0 fDate1 ntD keepD [] (thD (.int .i64 1) (.int .i64 9999)) [])
def tdD : List AItem := match tpD0 with | some t => t | none => []
theorem runD0 : tpD0 = some tdD := by kernel_rfl
theorem tdD_noD : noD tdD = true := by kernel_rfl
def pD : AM := patM gl [] fDate1 ntD tdD keepD []
def orD1 (b : Bool) : List OR := [⟨13, [.sym 10, .sym 11], .bool true⟩, ⟨0, [.sym 10, .sym 11], .sym 12⟩, ⟨0, [.sym 12, .int .i64 1], .sym 13⟩, ⟨3, [.sym 13, .int .i64 2], .sym 14⟩, ⟨cv tDay tInt, [.sym 0], .sym 0⟩, ⟨13, [.sym 15, .sym 0], .bool b⟩, ⟨1, [.sym 14, .int .i64 1], .sym 16⟩]
def krD1 : List KR := [⟨fAhead1, [.sym 14], ⟨.sym 15, []⟩⟩]
theorem runD1 : toPat (ED (orD1 true) krD1) gl [] 2 1000 0 fDate1 ntD keepD [] (thD (.sym 14) (.sym 11)) [] pD = some tdD := by kernel_rfl
theorem runD2 : toPat (ED (orD1 false) krD1) gl [] 2 1000 0 fDate1 ntD keepD [] (thD (.sym 10) (.sym 16)) [] pD = some tdD := by kernel_rfl
def orD3 (l : Bool) (mm : Nat) : List OR := [⟨13, [.sym 10, .sym 11], .bool false⟩, ⟨cv tDay tInt, [.sym 0], .sym 0⟩, ⟨1, [.sym 0, .sym 20], .sym 100⟩] ++ flatR (fun j => orMonth l mm j) mm
def krD3 (l : Bool) (mm : Nat) : List KR := ⟨fAhead1, [.sym 10], ⟨.sym 20, []⟩⟩ :: (upTo mm).map (fun j => ⟨fLong1, [.sym 10, .int .i64 (Int.ofNat (Nat.succ j))], ⟨.int .i64 (Int.ofNat (longN l (Nat.succ j))), []⟩⟩)
theorem runD3 : ∀ l : Bool, allB (fun mm => retIs (ED (orD3 l mm) (krD3 l mm)) fDate1 (.tuple [.sym 10, .int .i64 (Int.ofNat mm), .sym (Nat.add 99 mm)]) (runS (ED (orD3 l mm) (krD3 l mm)) doneA 2000 pD)) months12 = true := by
  intro l
  cases l <;> kernel_rfl
def sgD1 (n lo hi : Nat) (l : Bool) (i : Nat) : Value :=
  if i = 0 then .int .i64 (n : Int) else if i = 10 then .int .i64 (lo : Int) else if i = 11 then .int .i64 (hi : Int) else if i = 12 then .int .i64 ((lo : Int) + hi) else if i = 13 then .int .i64 ((lo : Int) + hi + 1)
  else if i = 14 then .int .i64 (((lo + hi + 1) / 2 : Nat) : Int) else if i = 15 then .int .i64 (aheadI (((lo + hi + 1) / 2 : Nat) : Int)) else if i = 16 then .int .i64 ((((lo + hi + 1) / 2 : Nat) : Int) - 1)
  else if i = 20 then .int .i64 (aheadI (lo : Int)) else .int .i64 ((n : Int) - aheadN lo - daysM l (i - 100))
section
variable {n lo hi : Nat} {l : Bool} {m : Int}
theorem sgD1_d {i : Nat} : sgD1 n lo hi l (100 + i) = .int .i64 ((n : Int) - aheadN lo - daysM l i) := by
  unfold sgD1
  rw [if_neg (by omega), if_neg (by omega), if_neg (by omega), if_neg (by omega), if_neg (by omega), if_neg (by omega), if_neg (by omega), if_neg (by omega), if_neg (by omega), Nat.add_sub_cancel_left]
theorem cD {i : Nat} {x : Int} (h : i ≠ 900) (e : sgD1 n lo hi l i = .int .i64 x) : conc (withM (sgD1 n lo hi l) m) (.sym i) = .int .i64 x := conc_at h e

theorem v0 : withM (sgD1 n lo hi l) m 0 = .int .i64 (n : Int) := rfl
theorem v10 : withM (sgD1 n lo hi l) m 10 = .int .i64 (lo : Int) := rfl
theorem v11 : withM (sgD1 n lo hi l) m 11 = .int .i64 (hi : Int) := rfl
theorem v14 : withM (sgD1 n lo hi l) m 14 = .int .i64 (((lo + hi + 1) / 2 : Nat) : Int) := rfl
theorem v16 : withM (sgD1 n lo hi l) m 16 = .int .i64 ((((lo + hi + 1) / 2 : Nat) : Int) - 1) := rfl
/-- The frame at the loop's head. -/
def AtD (w : World) (ρ0 : Rho) (σ : Nat → Value) (cs : List Frame) (M : Machine) : Prop :=
  ∃ b w1, (∀ j, j < w.heap.size → b j) ∧ Below w.heap.size w w1 ∧ ∀ E : Env, Live E b ρ0 σ cs pD M w1
def OutD (w : World) (cs : List Frame) (y mm d : Nat) (M : Machine) : Prop :=
  Wins Tryz.prog fDate1 cs (fun e w' => e = .returned (.tuple #[.int .i64 (y : Int), .int .i64 (mm : Int), .int .i64 (d : Int)]) ∧ Below w.heap.size w w') M

theorem envD (o : List OR) (k : List KR) {σ : Nat → Value} (ho : ∀ r ∈ o, RowOK (ED o k) 9 σ r) (hk : ∀ r ∈ k, KRow Tryz.prog gl σ r.f r.args r.img) : EnvS (ED o k) σ ∧ MemoOK (ED o k) σ :=
  ⟨EnvS.askM envOK ho (fun r hr => by cases hr), memoKH_ok (E := ED o k) rfl hk⟩

theorem kr_ahead1 {σ : Nat → Value} {i j : Nat} {y : Nat} (hm : σ kM = .int .i64 m) (h1 : 1 ≤ y) (h2 : y ≤ 20000) (hi : σ i = .int .i64 (y : Int)) (hj : σ j = .int .i64 (aheadI (y : Int))) : KRow Tryz.prog gl σ fAhead1 [.sym i] ⟨.sym j, []⟩ :=
  KRow.ofC hm rfl rfl (va := #[.int .i64 (y : Int)]) ⟨_, _, rfl, ⟨hi.symm, rfl⟩, rfl⟩ (.inl rfl) (u := .int .i64 (aheadI (y : Int))) ⟨hj.symm, rfl⟩ (c_ahead1 (by omega) (by omega)).all

theorem date_end {w : World} {ρ0 : Rho} {cs : List Frame} {y mm d : Nat} (hd : Dated n y mm d) {M : Machine} (h : AtD w ρ0 (withM (sgD1 n y y (leapB (y : Int))) m) cs M) : OutD w cs y mm d M := by
  obtain ⟨b, w1, q1, q2, q3⟩ := h
  have hr := hd.range
  have lo_ := hd.lo
  have e1 := hd.e
  have T := daysM_le (leapB (y : Int))
  have Mo : ∀ {a b : Nat}, a ≤ b → daysM (leapB (y : Int)) a ≤ daysM (leapB (y : Int)) b := fun h => daysM_mono _ h
  have y1 := hd.y1; have y2 := hd.y2; have m1 := hd.m1; have m2 := hd.m2
  have mon := hd.mon
  have c0 : conc (withM (sgD1 n y y (leapB (y : Int))) m) (.sym 0) = .int .i64 (n : Int) := cD (by decide) rfl
  have c20 : conc (withM (sgD1 n y y (leapB (y : Int))) m) (.sym 20) = .int .i64 (aheadI (y : Int)) := cD (by decide) rfl
  have cd : ∀ i, i < 700 → conc (withM (sgD1 n y y (leapB (y : Int))) m) (.sym (100 + i)) = .int .i64 ((n : Int) - aheadN y - daysM (leapB (y : Int)) i) := fun i hi => cD (by omega) sgD1_d
  obtain ⟨ok, mo⟩ := envD (orD3 (leapB (y : Int)) mm) (krD3 (leapB (y : Int)) mm) (σ := withM (sgD1 n y y (leapB (y : Int))) m) (fun r hr => by
    unfold orD3 at hr
    rcases List.mem_append.1 hr with hr | hr
    · simp only [List.mem_cons, List.mem_nil_iff, or_false] at hr
      rcases hr with rfl | rfl | rfl
      · exact RowOK.cmp .i64 (x := (y : Int)) (y := (y : Int)) rfl rfl (.inr (.inr (.inl ⟨rfl, by symm; rw [decide_eq_false_iff_not]; omega⟩)))
      · exact RowOK.conv (u := tDay) (d := tInt) (k := .i64) (k' := .i64) (n := (n : Int)) (by show und E0 tDay = some (.int .i64); kernel_rfl) (by show und E0 tInt = some (.int .i64); kernel_rfl) c0 (by rw [c0, wrap64_id (by omega) (by omega)]) (by decide)
      · exact RowOK.sub64 (x := (n : Int)) (y := aheadI (y : Int)) c0 c20 (cd 0 (by omega)) (by rw [ahead_eq (by omega)]; show _ = (n : Int) - aheadN y - ((0 : Nat) : Int); omega) (by show _ ≤ (n : Int) - aheadN y - ((0 : Nat) : Int); omega) (by show (n : Int) - aheadN y - ((0 : Nat) : Int) < _; omega)
    · obtain ⟨j, hj, hr⟩ := flatR_mem hr
      simp only [orMonth, List.mem_cons, List.mem_nil_iff, or_false] at hr
      have hs : daysM (leapB (y : Int)) (j + 1) = daysM (leapB (y : Int)) j + longN (leapB (y : Int)) (j + 1) := rfl
      have t1 := T (j + 1)
      rcases hr with rfl | rfl
      · refine RowOK.cmp .i64 (x := (n : Int) - aheadN y - daysM (leapB (y : Int)) j) (y := ((longN (leapB (y : Int)) (j + 1) : Nat) : Int)) (cd j (by omega)) rfl (.inr (.inr (.inr (.inr (.inl ⟨rfl, ?_⟩)))))
        rw [blt_iff]
        by_cases hjm : j + 1 < mm
        · have := Mo (a := j + 1) (b := mm - 1) (by omega)
          rw [show decide (Nat.succ j < mm) = true from decide_eq_true hjm]; symm; rw [decide_eq_true_eq]; omega
        · have : mm = j + 1 := by omega
          subst this
          rw [show decide (Nat.succ j < j + 1) = false from decide_eq_false (by omega)]; symm; rw [decide_eq_false_iff_not]; omega
      · exact RowOK.sub64 (x := (n : Int) - aheadN y - daysM (leapB (y : Int)) j) (y := ((longN (leapB (y : Int)) (j + 1) : Nat) : Int)) (cd j (by omega)) rfl (show conc _ (.sym (101 + j)) = _ from by rw [show 101 + j = 100 + (j + 1) by omega]; exact cd (j + 1) (by omega)) (by rw [hs]; omega) (by omega) (by omega))
    (fun r hr => by
    unfold krD3 at hr
    rcases List.mem_cons.1 hr with rfl | hr
    · exact kr_ahead1 (withM_kM _ _) (y := y) (by omega) (by omega) rfl rfl
    · obtain ⟨j, hj, rfl⟩ := List.mem_map.1 hr
      have hj := upTo_mem.1 hj
      exact KRow.ofC (withM_kM _ _) rfl rfl (va := #[.int .i64 (y : Int), .int .i64 ((j + 1 : Nat) : Int)]) ⟨_, _, rfl, ⟨rfl, rfl⟩, _, _, rfl, rfl, rfl⟩ (.inl rfl) (u := .int .i64 ((longN (leapB (y : Int)) (j + 1) : Nat) : Int)) rfl (c_long1 (by omega) (by omega) (by omega)).all)
  refine ((q3 (ED (orD3 (leapB (y : Int)) mm) (krD3 (leapB (y : Int)) mm))).wins ok mo (Hold.all (fun _ => True.intro) _ _) (allB_spec (runD3 _) mm (months12_mem m1 m2))).mono ?_
  rintro e w' ⟨u, ρ', rfl, hu, hK⟩
  refine ⟨?_, Below.kept q2 hK q1⟩
  obtain ⟨vs, rfl, x, r, e2, hx, x2, r2, rfl, hx2, x3, r3, rfl, hx3, rfl⟩ := hu
  obtain ⟨hx, _⟩ := hx
  obtain ⟨hx3, _⟩ := hx3
  have hx2 : x2 = .int .i64 (mm : Int) := hx2
  have ex : x = .int .i64 (y : Int) := hx
  have ex3 : x3 = .int .i64 (d : Int) := by
    rw [hx3]
    show withM _ _ (99 + mm) = _
    rw [withM_ne (by omega), show 99 + mm = 100 + (mm - 1) by omega, sgD1_d]
    congr 1; omega
  have : vs = #[.int .i64 (y : Int), .int .i64 (mm : Int), .int .i64 (d : Int)] := Array.ext' (by rw [e2, ex, hx2, ex3])
  rw [this]

theorem date_loop {w : World} {ρ0 : Rho} {cs : List Frame} {y mm d : Nat} (hd : Dated n y mm d) : ∀ fuel lo hi : Nat, hi - lo ≤ fuel → 1 ≤ lo → lo ≤ y → y ≤ hi → hi ≤ 9999 → ∀ M, AtD w ρ0 (withM (sgD1 n lo hi (leapB (y : Int))) m) cs M → OutD w cs y mm d M := by
  have hr := hd.range
  have hlo := hd.lo
  have hhi := hd.hi
  intro fuel
  induction fuel with
  | zero =>
    intro lo hi hf h1 h2 h3 h4 M h
    obtain rfl : lo = y := by omega
    obtain rfl : hi = lo := by omega
    exact date_end hd h
  | succ fuel ih =>
    intro lo hi hf h1 h2 h3 h4 M h
    by_cases hlt : lo < hi
    case neg =>
      obtain rfl : lo = y := by omega
      obtain rfl : hi = lo := by omega
      exact date_end hd h
    obtain ⟨b, w1, q1, q2, q3⟩ := h
    have hmid : lo < (lo + hi + 1) / 2 ∧ (lo + hi + 1) / 2 ≤ hi := by omega
    have ah : aheadN ((lo + hi + 1) / 2) ≤ 3652059 := by
      have := ahead_mono (y := (lo + hi + 1) / 2) (z := 10000) (by omega) (by omega)
      have e : aheadN 10000 = 3652059 := by decide
      omega
    have rows : ∀ (bb : Bool), bb = decide (aheadN ((lo + hi + 1) / 2) < n) → EnvS (ED (orD1 bb) krD1) (withM (sgD1 n lo hi (leapB (y : Int))) m) ∧ MemoOK (ED (orD1 bb) krD1) (withM (sgD1 n lo hi (leapB (y : Int))) m) := fun bb hb => envD _ _ (fun r hr => by
      simp only [orD1, List.mem_cons, List.mem_nil_iff, or_false] at hr
      rcases hr with rfl | rfl | rfl | rfl | rfl | rfl | rfl
      · exact RowOK.cmp .i64 (x := (lo : Int)) (y := (hi : Int)) rfl rfl (.inr (.inr (.inl ⟨rfl, by symm; rw [decide_eq_true_eq]; omega⟩)))
      · exact RowOK.add64 (x := (lo : Int)) (y := (hi : Int)) rfl rfl rfl rfl (by omega) (by omega)
      · exact RowOK.add64 (x := (lo : Int) + hi) (y := 1) rfl rfl rfl rfl (by omega) (by omega)
      · refine RowOK.quo64 (x := (lo : Int) + hi + 1) (y := 2) rfl rfl rfl (by decide) ?_ (by omega) (by omega)
        rw [Int.tdiv_eq_ediv_of_nonneg (by omega)]; omega
      · exact RowOK.conv (u := tDay) (d := tInt) (k := .i64) (k' := .i64) (n := (n : Int)) (by show und E0 tDay = some (.int .i64); kernel_rfl) (by show und E0 tInt = some (.int .i64); kernel_rfl) rfl (by rw [wrap64_id (by omega) (by omega)]; rfl) (by decide)
      · refine RowOK.cmp .i64 (x := aheadI (((lo + hi + 1) / 2 : Nat) : Int)) (y := (n : Int)) rfl rfl (.inr (.inr (.inl ⟨rfl, ?_⟩)))
        rw [hb, ahead_eq (by omega), decide_eq_decide]; omega
      · exact RowOK.sub64 (x := (((lo + hi + 1) / 2 : Nat) : Int)) (y := 1) rfl rfl rfl rfl (by omega) (by omega)) (fun r hr => by
      simp only [krD1, List.mem_cons, List.mem_nil_iff, or_false] at hr
      subst hr
      exact kr_ahead1 (withM_kM _ _) (y := (lo + hi + 1) / 2) (by omega) (by omega) rfl rfl)
    by_cases hb : aheadN ((lo + hi + 1) / 2) < n
    · obtain ⟨ok, mo⟩ := rows true (decide_eq_true hb).symm
      obtain ⟨M', w', b', g1, g2, g3, g4⟩ := (q3 (ED (orD1 true) krD1)).toPat (E' := E0) (σ' := withM (sgD1 n ((lo + hi + 1) / 2) hi (leapB (y : Int))) m) ok mo (Hold.all (fun _ => True.intro) _ _) runD1 glOK gl_bareM rfl ((withM_kM _ _).trans (withM_kM _ _).symm) ⟨congrArg some (v0.trans v0.symm), congrArg some (v14.trans v10.symm), congrArg some (v11.trans v11.symm), trivial⟩
      refine Wins.steps g1 (ih _ hi (by omega) (by omega) ?_ h3 h4 M' ⟨b', w', fun j hj => g3 _ (q1 j hj), Below.kept q2 g2 q1, fun E => Live.env g4 rfl tdD_noD⟩)
      apply Nat.le_of_not_lt
      intro hc
      have := ahead_mono (y := y + 1) (z := (lo + hi + 1) / 2) (by omega) (by omega)
      omega
    · obtain ⟨ok, mo⟩ := rows false (decide_eq_false hb).symm
      obtain ⟨M', w', b', g1, g2, g3, g4⟩ := (q3 (ED (orD1 false) krD1)).toPat (E' := E0) (σ' := withM (sgD1 n lo ((lo + hi + 1) / 2 - 1) (leapB (y : Int))) m) ok mo (Hold.all (fun _ => True.intro) _ _) runD2 glOK gl_bareM rfl ((withM_kM _ _).trans (withM_kM _ _).symm) ⟨congrArg some (v0.trans v0.symm), congrArg some (v10.trans v10.symm), congrArg some (v16.trans ((show Value.int .i64 ((((lo + hi + 1) / 2 : Nat) : Int) - 1) = Value.int .i64 (((lo + hi + 1) / 2 - 1 : Nat) : Int) from by congr 1; omega).trans v11.symm)), trivial⟩
      refine Wins.steps g1 (ih lo _ (by omega) h1 h2 ?_ (by omega) M' ⟨b', w', fun j hj => g3 _ (q1 j hj), Below.kept q2 g2 q1, fun E => Live.env g4 rfl tdD_noD⟩)
      apply Nat.le_of_not_lt
      intro hc
      have := ahead_mono (y := (lo + hi + 1) / 2) (z := y) (by omega) (by omega)
      omega
end
/-- A day's date, by the document: as civil's. -/
theorem c_date1 {n y mm d : Nat} (hd : Dated n y mm d) : CallsV Tryz.prog gl fDate1 #[.int .i64 (n : Int)] (.tuple #[.int .i64 (y : Int), .int .i64 (mm : Int), .int .i64 (d : Int)]) := by
  intro w ⟨m, hm⟩ _ cs
  have hr := hd.range
  obtain ⟨ρ, hR⟩ := hm (withM (sgD1 n 1 9999 (leapB (y : Int))) m) (withM_kM _ _)
  have run := runD0
  unfold tpD0 at run
  obtain ⟨m0, hm0, hm1⟩ := bnd_some run
  obtain ⟨fr, hfr, rfl⟩ := startM_some hm0
  obtain ⟨ok, mo⟩ := envD orD0 [] (σ := withM (sgD1 n 1 9999 (leapB (y : Int))) m) (fun r hr => by
    simp only [orD0, List.mem_cons, List.mem_nil_iff, or_false] at hr
    rcases hr with rfl | rfl
    · exact RowOK.cmp .i64 (x := (n : Int)) (y := 1) rfl rfl (.inr (.inr (.inl ⟨rfl, by symm; rw [decide_eq_false_iff_not]; omega⟩)))
    · exact RowOK.cmp .i64 (x := (n : Int)) (y := 3652059) rfl rfl (.inr (.inr (.inr (.inr (.inl ⟨rfl, by symm; rw [decide_eq_false_iff_not]; omega⟩)))))) (fun r hr => by cases hr)
  have hL0 := Live.start (E := ED orD0 []) (cs := cs) ok.ok hR (args := [.sym 0]) (va := #[.int .i64 (n : Int)]) ⟨_, _, rfl, ⟨rfl, rfl⟩, rfl⟩ hfr
  obtain ⟨M', w', b', g1, g2, g3, g4⟩ := hL0.toPat (E' := E0) (σ' := withM (sgD1 n 1 9999 (leapB (y : Int))) m) ok mo (Hold.all (fun _ => True.intro) _ _) hm1 glOK gl_bareM rfl rfl ⟨rfl, rfl, rfl, trivial⟩
  exact Wins.steps g1 (date_loop hd 9999 1 9999 (by omega) (by omega) hd.y1 hd.y2 (by omega) M' ⟨b', w', fun j hj => g3 _ hj, Below.kept (Below.refl _ _) g2 (fun _ h => h), fun E => Live.env g4 rfl tdD_noD⟩)
end
end Go.Proofs.YtjhnpcnamclfbaaGreatDoor

/-! A day's text by the document. -/
namespace Go.Proofs.YtjhnpcnamclfbaaGreatDoor
open Go Go.Eng Go.RowKit
noncomputable section
set_option maxRecDepth 100000

end
end Go.Proofs.YtjhnpcnamclfbaaGreatDoor

/-! A day's text by the document, as a row. -/
namespace Go.Proofs.YtjhnpcnamclfbaaGreatDoor
open Go Go.Eng Go.RowKit
noncomputable section

end
end Go.Proofs.YtjhnpcnamclfbaaGreatDoor

/-! lines.All: a line a day. -/
namespace Go.Proofs.YtjhnpcnamclfbaaGreatDoor
open Go.Shelf Go.RowKit
noncomputable section

theorem b_write (B b : Nat) (bs : List Value) (s : ByteArray) (w : World) (h : Lib.IsBuilder 99 5 B b bs w) (hlen : bs.length + s.size ≤ 140737488355328) (hBw : B ≤ w.heap.size) :
    Calls Tryz.prog 61 #[.pointer (some ⟨b, 0, none⟩), .string s] w fun e w' => e = .returned (.tuple #[.int .i64 s.size, .nilIface]) ∧ (Lib.BuilderAt 99 5 B b (.pointer (some ⟨b, 0, none⟩)) (bs ++ Lib.strCells s) w' ∧ Below B w w') :=
  Any.Builder_WriteString (ρ := Tryz.lays156_ren) { Tryz.lays156 with } Tryz.Builder_Extra_156 B b bs s w h hlen hBw
theorem b_string (B b : Nat) (l : List UInt8) (w : World) (h : Lib.IsBuilder 99 5 B b (Lib.byteCells l) w) (hBw : B ≤ w.heap.size) :
    Calls Tryz.prog 62 #[.pointer (some ⟨b, 0, none⟩)] w fun e w' => e = .returned (.string ⟨l.toArray⟩) ∧ Below B w w' :=
  Any.Builder_String_any (ρ := Tryz.lays156_ren) { Tryz.lays156 with } Tryz.Builder_Extra_156 B b l w h hBw

/-- A line each. -/
def allL (k : Nat) : List Int → List UInt8
  | [] => []
  | d :: l => lineI k d ++ (10 :: allL k l)
theorem allL_append (k : Nat) : ∀ a b : List Int, allL k (a ++ b) = allL k a ++ allL k b
  | [], _ => rfl
  | d :: a, b => by
    show lineI k d ++ (10 :: allL k (a ++ b)) = (lineI k d ++ (10 :: allL k a)) ++ allL k b
    rw [allL_append k a b]; simp
theorem allL_succ (k : Nat) (l : List Int) (j : Nat) (d : Int) (h : l[j]? = some d) : allL k (l.take (j + 1)) = allL k (l.take j) ++ (lineI k d ++ [10]) := by
  rw [List.take_add_one, h, allL_append]; rfl
theorem allL_le (k : Nat) (l : List Int) (j : Nat) : (allL k (l.take j)).length ≤ (allL k l).length := by
  have h := allL_append k (l.take j) (l.drop j)
  rw [List.take_append_drop] at h
  rw [h, List.length_append]; omega
theorem bat_below {T e : TypeId} {B b : Nat} {p : Value} {bs : List Value} {W W' : World} (h : Lib.BuilderAt T e B b p bs W) (hb : Below W.heap.size W W') : Lib.BuilderAt T e B b p bs W' := by
  have hlt := h.lt
  obtain ⟨hB, v, hv, hown, hne⟩ := h
  exact ⟨hB, v, (hb.block b hlt).trans hv, hown.kept (row := none) ⟨hb.os, hb.tape, hb.output, hb.size, fun k hk _ => hb.block k hk⟩ (Classical.em _), hne⟩
theorem isb_below {T e : TypeId} {B b : Nat} {bs : List Value} {W W' : World} (h : Lib.IsBuilder T e B b bs W) (hb : Below W.heap.size W W') : Lib.IsBuilder T e B b bs W' :=
  h.elim (fun x => .inl (bat_below x hb)) (fun x => .inr (bat_below x hb))
theorem hid' {p : Prop} (h : p) : Hid p := h

set_option maxHeartbeats 4000000 in
set_option maxRecDepth 100000 in
theorem all_calls {k : Nat} {ρt : Go.Eng.Rho} (hk : k < 4) {p : Value} (hp : PtrX k ρt p) (N o c : Nat) (l : List Int) (w : World) (hw : Go.Eng.Vars gl w) (ht : tabW k ρt w)
    (hcells : ∀ (j : Nat) d, l[j]? = some d → w.cell? ⟨N, o + j, none⟩ = some (.int .i64 d)) (hN : N < w.heap.size) (hl : l.length ≤ 1000) (hlen : (allL k l).length ≤ 140737488355328) :
    Calls Tryz.prog fLAll #[p, .slice (some ⟨N, o, none⟩) l.length c] w fun e w' => e = .returned (.string ⟨(allL k l).toArray⟩) ∧ Below w.heap.size w w' := by
  have HC := hid' hcells
  clear hcells
  have HT : Hid (∀ (d : Int) (w1 : World), Below w.heap.size w w1 → Calls Tryz.prog fLText #[p, .int .i64 d] w1 (fun e w' => e = .returned (.string ⟨(lineI k d).toArray⟩) ∧ Below w1.heap.size w1 w')) := hid' fun d w1 hB => by
    have h1 : Go.Eng.Vars gl w1 := Vars.below hw hB
    exact c_ltextI hk hp d w1 h1 ((tabW_all k ρt w ht).keep _ _ ht ⟨hB.os, hB.tape, hB.output, hB.size, hB.block⟩)
  clear hw ht hp
  have t93 := Tryz.underlying99; have a93 := Tryz.isAgg99; have z93 := Tryz.sizeOf99; have v93 := Tryz.zeroValue99; have u93 := run_underlying Tryz.underlying99
  have t26 := Tryz.underlying26; have a26 := Tryz.isAgg26; have z26 := Tryz.sizeOf26; have v26 := Tryz.zeroValue26; have u26 := run_underlying Tryz.underlying26
  have t28 := Tryz.underlying78; have a28 := Tryz.isAgg78; have z28 := Tryz.sizeOf78; have v28 := Tryz.zeroValue78; have u28 := run_underlying Tryz.underlying78
  have t3 := Tryz.underlying3; have a3 := Tryz.isAgg3; have z3 := Tryz.sizeOf3; have v3 := Tryz.zeroValue3; have u3 := run_underlying Tryz.underlying3
  have t9 := Tryz.underlying9; have a9 := Tryz.isAgg9; have z9 := Tryz.sizeOf9; have v9 := Tryz.zeroValue9; have u9 := run_underlying Tryz.underlying9
  have e18 : ∀ args w, (callFunc 31 args).run Tryz.prog w = .ok (.enter 31 args) w := enters_of Tryz.func31 (by kernel_rfl) rfl
  have e48 : ∀ args w, (callFunc 61 args).run Tryz.prog w = .ok (.enter 61 args) w := enters_of Tryz.func61 (by kernel_rfl) rfl
  have e49 : ∀ args w, (callFunc 62 args).run Tryz.prog w = .ok (.enter 62 args) w := enters_of Tryz.func62 (by kernel_rfl) rfl
  go_enter Tryz.func81, Tryz.ntmps81
  go_wp2_with fail
  go_loopw [10] (fun i wr => ∃ k' : Nat, k' ≤ l.length ∧ i = .int .i64 k' ∧ Hid (Lib.IsBuilder 99 5 w.heap.size w.heap.size (Lib.byteCells (allL k (l.take k'))) wr) ∧ Hid (Below w.heap.size w wr)) (fun i _ => l.length - (intOf i).toNat)
  case atStart =>
    refine ⟨0, Nat.zero_le _, rfl, hid' (.inl ?_), hid' ((Below.refl w.heap.size w).alloc (Nat.le_refl _) _)⟩
    exact ⟨Nat.le_refl _, _, heap_alloc_new w _, World.ownsRow_nil _ _ _ _, by simp [Value.ownBlock]⟩
  case round =>
    obtain ⟨k', hk', rfl, HB, HW⟩ := hrel
    by_cases hkr : k' < l.length
    · obtain ⟨y, hy⟩ : ∃ y, l[k']? = some y := ⟨l[k'], List.getElem?_eq_getElem hkr⟩
      have hcy : wr.cell? ⟨N, o + k', none⟩ = some (.int .i64 y) := by
        rw [HW.out.cell (p := ⟨N, o + k', none⟩) hN]
        exact HC.out k' y hy
      have hBw : w.heap.size ≤ wr.heap.size := HW.out.size
      obtain ⟨S, hS⟩ : ∃ S : ByteArray, S = ⟨(lineI k y ++ [10]).toArray⟩ := ⟨_, rfl⟩
      have hsz : S.size = (lineI k y ++ [10]).length := by rw [Lib.size_eq, hS]
      have hnext : Lib.byteCells (allL k (l.take k')) ++ Lib.strCells S = Lib.byteCells (allL k (l.take (k' + 1))) := by
        rw [allL_succ k l k' y hy, Lib.strCells_eq, ← Lib.byteCells_append, hS]
      have hcat : (({ data := (lineI k y).toArray } : ByteArray) ++ ({ data := #[10] } : ByteArray)) = S := by
        rw [hS]
        apply ByteArray.ext
        rw [ByteArray.data_append]; simp
      have Hcat := hid' hcat
      clear hcat hS
      have hl1 := Nat.le_trans (allL_le k l (k' + 1)) hlen
      rw [allL_succ k l k' y hy, List.length_append] at hl1
      have Hn := hid' hnext
      have hlen1 : (Lib.byteCells (allL k (l.take k'))).length + S.size ≤ 140737488355328 := by rw [Lib.byteCells_length, hsz]; exact hl1
      have Hlen1 := hid' hlen1
      clear hnext hy hlen1 hsz
      go_wp2_with fail
      refine (HT.out y wr HW.out).mono ?_
      rintro e w2 ⟨rfl, hb2⟩
      have H2 := isb_below HB.out hb2
      have hBw2 : w.heap.size ≤ w2.heap.size := Nat.le_trans hBw hb2.size
      have Hb2 := hid' (HW.out.trans (hb2.mono hBw))
      clear hb2
      have hly : ¬ 9223372036854775807 < (lineI k y).length + 1 := by
        rw [List.length_append, List.length_singleton] at hl1; omega
      go_wp2_with fail
      rw [Hcat.out]
      refine (b_write w.heap.size w.heap.size _ S w2 H2 Hlen1.out hBw2).mono ?_
      rintro e w3 ⟨rfl, h3, hb3⟩
      rw [Hn.out] at h3
      have H3 := hid' (Or.inr h3 : Lib.IsBuilder 99 5 w.heap.size w.heap.size _ w3)
      have Hb3 := hid' (Hb2.out.trans hb3)
      clear h3 hb3
      go_wp2
      exact ⟨⟨k' + 1, by omega, by go_num, H3, Hb3⟩, by simp [intOf]; omega⟩
    · have hke : k' = l.length := by omega
      subst hke
      have hB' := HB.out
      rw [List.take_length] at hB'
      have hBw : w.heap.size ≤ wr.heap.size := HW.out.size
      go_wp2_with fail
      refine (b_string w.heap.size w.heap.size _ wr hB' hBw).mono ?_
      rintro e w5 ⟨rfl, hb5⟩
      have Hb5 := hid' (HW.out.trans hb5)
      clear hb5 hB'
      go_wp2
      go_ret
      exact ⟨rfl, Hb5.out⟩
end
end Go.Proofs.YtjhnpcnamclfbaaGreatDoor

/-! The server's reply to a preview. -/
namespace Go.Proofs.YtjhnpcnamclfbaaGreatDoor
open Go Go.Eng Go.RowKit

theorem text_calls {n : Nat} (h1 : 1 ≤ n) (h2 : n ≤ lastN) {w : World} (hw : Vars gl w) (he : errV w) : Calls Tryz.prog fText #[.int .i64 (n : Int)] w fun e w' => e = .returned (strV (dtx n)) ∧ Below w.heap.size w w' :=
  (CG.e (c_text (dateN_dated h1 h2)).g) w hw he
theorem itoa_calls {n : Nat} (hn : n < 4294967296) {w : World} (hw : Vars gl w) (he : errV w) : Calls Tryz.prog fItoa #[.int .i64 (n : Int)] w fun e w' => e = .returned (strV (Lib.decDigits n)) ∧ Below w.heap.size w w' :=
  (CG.e (c_itoa n (by omega)).g) w hw he
theorem bcat (a b : List UInt8) : (⟨a.toArray⟩ : ByteArray) ++ ⟨b.toArray⟩ = ⟨(a ++ b).toArray⟩ := by
  apply ByteArray.ext
  rw [ByteArray.data_append]; simp
theorem flag_calls (b : Bool) (w : World) : Calls Tryz.prog 118 #[.bool b] w fun e w' => e = .returned (.string ⟨(if b then [49] else [48] : List UInt8).toArray⟩) ∧ w' = w := by
  go_enter Tryz.func118, Tryz.ntmps118
  cases b with
  | true =>
    go_wp2
    go_ret
    exact ⟨rfl, rfl⟩
  | false =>
    go_wp2
    go_ret
    exact ⟨rfl, rfl⟩
set_option maxRecDepth 100000 in
set_option maxHeartbeats 1000000 in
theorem head_calls (n : Nat) (b : Bool) (hn : n < 4294967296) {w : World} (hw : Vars gl w) (he : errV w) : Calls Tryz.prog 75 #[.int .i64 (n : Int), .bool b] w fun e w' => e = .returned (strV ([111, 107, 32] ++ Lib.decDigits n ++ [32] ++ (if b then [49] else [48]) ++ [10])) ∧ Below w.heap.size w w' := by
  have hI := itoa_calls hn hw he
  have hl := (dec_ok hn).2
  unfold strV at hI
  have hF := flag_calls b
  have hf2 : (if b then [49] else [48] : List UInt8).length ≤ 1 := by cases b <;> exact Nat.le_refl _
  generalize (if b then [49] else [48] : List UInt8) = fl at hf2 hF ⊢
  have e1 := bcat [111, 107, 32] (Lib.decDigits n)
  have e2 := bcat ([111, 107, 32] ++ Lib.decDigits n) [32]
  have e3 := bcat ([111, 107, 32] ++ Lib.decDigits n ++ [32]) fl
  have e4 := bcat ([111, 107, 32] ++ Lib.decDigits n ++ [32] ++ fl) [10]
  rw [← e1] at e2
  rw [← e2] at e3
  rw [← e3] at e4
  have E4 := hidZ e4
  clear e1 e2 e3 e4
  unfold strV
  generalize (⟨([111, 107, 32] ++ Lib.decDigits n ++ [32] ++ fl ++ [10]).toArray⟩ : ByteArray) = res at E4 ⊢
  go_enter Tryz.func75, Tryz.ntmps75
  go_wp2_with (refine hI.mono ?_; rintro e w2 ⟨rfl, b2⟩)
  refine (hF w2).mono ?_
  rintro e w3 ⟨rfl, rfl⟩
  go_wp2
  go_ret
  exact ⟨congrArg (fun x => Ending.returned (.string x)) E4.out, b2⟩
end Go.Proofs.YtjhnpcnamclfbaaGreatDoor

/-! A region that draws: it reads, makes one call that may write, and reads again. -/
namespace Go.Proofs.YtjhnpcnamclfbaaGreatDoor
open Go

variable {P : Program} {ops : Array Oper} {w : World}
/-- Each operation behind the call waits for one from the call on. -/
def chainR (md : Region.Mode) (ops : Array Oper) (n : Nat) : Bool :=
  (List.range ops.size).all fun t => decide (t ≤ n) || (List.range t).any fun u => decide (n ≤ u) && Region.waitsFor md ops t u
theorem tail_waitsR {md : Region.Mode} {n : Nat} {listed : Array Bool} (hs : Region.sinkB md ops n = true) (hc : chainR md ops n = true) (hn : n < ops.size) (inv : HeadInv md ops n listed) :
    ∀ (d i : Nat), n - i = d → i < n → listed.getD i true = false → ∀ t, n ≤ t → t ∉ Region.ready md ops listed := by
  intro d
  induction d using Nat.strongRecOn with
  | _ d ih =>
    intro i hd hi hun t ht hr
    obtain ⟨_, ot, hot, hall⟩ := mem_ready.1 hr
    have htlt : t < ops.size := (Array.getElem?_eq_some_iff.1 hot).1
    by_cases htn : t = n
    · subst htn
      have h1 := List.all_eq_true.1 hs i (List.mem_range.2 hi)
      obtain ⟨j, hj, hj2⟩ := List.any_eq_true.1 h1
      simp only [Bool.and_eq_true, decide_eq_true_eq] at hj2
      obtain ⟨oj, hoj, e, he, hb, hon⟩ := Region.waitsFor_spec hj2.2
      have hjle : j ≤ t := by have := List.mem_range.1 hj; omega
      by_cases hjt : j = t
      · subst hjt
        have : oj = ot := Option.some.inj (hoj.symm.trans hot)
        subst this
        have h2 := hall e he hb
        rw [hon, getD_both hun] at h2
        cases h2
      · cases hl : listed.getD j false with
        | true =>
          have h2 := inv.closed j oj hoj hl e he hb
          rw [hon, getD_both hun] at h2
          cases h2
        | false =>
          have hjs : j < listed.size := by rw [inv.size]; omega
          exact ih (t - j) (by omega) j rfl (by omega) (getD_in hjs hl) t (Nat.le_refl _) hr
    · have h1 := List.all_eq_true.1 hc t (List.mem_range.2 htlt)
      simp only [Bool.or_eq_true, decide_eq_true_eq] at h1
      rcases h1 with h1 | h1
      · omega
      · obtain ⟨u, hu, hu2⟩ := List.any_eq_true.1 h1
        simp only [Bool.and_eq_true, decide_eq_true_eq] at hu2
        obtain ⟨o', ho', e, he, hb, hon⟩ := Region.waitsFor_spec hu2.2
        have hut := List.mem_range.1 hu
        have : o' = ot := Option.some.inj (ho'.symm.trans hot)
        subst this
        have h2 := hall e he hb
        rw [hon, getD_both (inv.tail u hu2.1 (by omega))] at h2
        cases h2
theorem wpAnyL_firstR {md : Region.Mode} {n i : Nat} {oi : Oper} {v : Value} {L : Array Bool → Act → Prop} (hi : ops[i]? = some oi) (hsel : ∀ (j : Nat) (o : Oper) cs b, ops[j]? = some o → o.op ≠ .select cs b)
    (hs : Region.sinkB md ops n = true) (hc : chainR md ops n = true) (hn : n < ops.size) (hin : i < n)
    (hdone : ∀ listed a, L listed a → ∀ j ∈ Region.ready md ops listed, n ≤ j) :
    ∀ (f : Nat) (listed : Array Bool) (a : Act), HeadInv md ops n listed →
      (∀ j oj, ops[j]? = some oj → j ≠ i → listed.getD j true = false → (∀ e ∈ oj.after, Region.binds md e = true → e.on ≠ i) → oi.apart ops oj = true) →
      i ∈ Region.ready md ops listed → YieldsAt P ops w oi v a →
      wpAnyL P md ops w n L f (listed.setIfInBounds i true) (a.put oi.dst v) → wpAnyL P md ops w n L (f + 1) listed a := by
  intro f
  induction f with
  | zero =>
    intro listed a inv _ hr hy H
    have hun := (mem_ready.1 hr).1
    refine ⟨fun h => (by rw [h] at hr; cases hr), fun j hj => ?_⟩
    have hjn : j < n := by
      rcases Nat.lt_or_ge j n with h | h
      · exact h
      · exact absurd hj (tail_waitsR hs hc hn inv _ i rfl hin hun j h)
    refine ⟨hjn, ?_⟩
    by_cases hji : j = i
    · subst hji; exact hy.stOp hi H
    · have := hdone _ _ H j (ready_mono hj hji)
      omega
  | succ f ih =>
    intro listed a inv hfree hr hy H
    have hun := (mem_ready.1 hr).1
    refine ⟨fun h => (by rw [h] at hr; cases hr), fun j hj => ?_⟩
    have hjn : j < n := by
      rcases Nat.lt_or_ge j n with h | h
      · exact h
      · exact absurd hj (tail_waitsR hs hc hn inv _ i rfl hin hun j h)
    refine ⟨hjn, ?_⟩
    by_cases hji : j = i
    · subst hji; exact hy.stOp hi H
    · have h1 := (H.2 j (ready_mono hj hji)).2
      obtain ⟨hjun, oj, hoj, hall⟩ := mem_ready.1 hj
      have hnot : ∀ e ∈ oj.after, Region.binds md e = true → e.on ≠ i := fun e he hb heq => by
        have h1 := hall e he hb
        rw [heq, getD_both hun] at h1
        cases h1
      have h2 := stOp_put hoj (hfree j oj hoj hji hjun hnot) (fun cs b => hsel i oi cs b hi) (fun cs b => hsel j oj cs b hoj) hy h1
      have hfree' : ∀ k ok, ops[k]? = some ok → k ≠ i → (listed.setIfInBounds j true).getD k true = false →
          (∀ e ∈ ok.after, Region.binds md e = true → e.on ≠ i) → oi.apart ops ok = true := fun k ok hk hki hun hno => by
        refine hfree k ok hk hki ?_ hno
        by_cases hjk : j = k
        · subst hjk; exact hjun
        · rw [getD_set_ne true hjk] at hun; exact hun
      refine stOp_mono (fun a' h3 => ih (listed.setIfInBounds j true) a' (inv.set hj hjn) hfree' (ready_mono hr (Ne.symm hji)) h3.1 ?_) h2
      rw [Array.setIfInBounds_comm _ _ hji]
      exact h3.2
/-- Behind the head: the call alone may come, and then the rest in the order of the text. -/
def midB (md : Region.Mode) (ops : Array Oper) (n : Nat) (listed : Array Bool) : Bool :=
  decide (Region.ready md ops listed = [n]) && Region.lexFrom md ops (ops.size - (n + 1)) (n + 1) (listed.setIfInBounds n true)
def headMid (md : Region.Mode) (ops : Array Oper) (n : Nat) : Nat → Nat → Array Bool → Bool
  | 0, _, listed => midB md ops n listed
  | f + 1, k, listed => (Region.ready md ops listed).contains k && Region.free md ops listed k && headMid md ops n f (k + 1) (listed.setIfInBounds k true)
def lexMidB (md : Region.Mode) (ops : Array Oper) (n : Nat) : Bool :=
  Region.noSelect ops && decide (n < ops.size) && Region.sinkB md ops n && chainR md ops n && headMid md ops n n 0 (Array.replicate ops.size false)
theorem wpAnyL_mid {md : Region.Mode} {n : Nat} {Lq : Act → Prop} (hsel : Region.noSelect ops = true) (hs : Region.sinkB md ops n = true) (hc : chainR md ops n = true) (hn : n < ops.size) :
    ∀ (l : List Oper) (k : Nat) (listed : Array Bool) (a : Act), (∀ j, j < l.length → l[j]? = ops[k + j]?) → k + l.length = n → HeadInv md ops n listed →
    headMid md ops n l.length k listed = true → wpStill P ops w Lq l a →
    wpAnyL P md ops w n (fun listed' a' => midB md ops n listed' = true ∧ Lq a') l.length listed a
  | [], k, listed, a, _, hk, _, hB, h => ⟨hB, h⟩
  | o :: l, k, listed, a, hl, hk, inv, hB, h => by
    have h0 : ops[k]? = some o := by simpa using (hl 0 (by simp)).symm
    simp only [List.length_cons, headMid, Bool.and_eq_true] at hB
    obtain ⟨⟨hr, hf⟩, hB'⟩ := hB
    have hkn : k < n := by simp only [List.length_cons] at hk; omega
    have hr' : k ∈ Region.ready md ops listed := by simpa using hr
    have hst : stOp P ops w k (wpStill P ops w Lq l) a := by unfold stOp; simp only [h0]; exact h
    obtain ⟨v, hy, hK⟩ := yieldsAt_of_stOp h0 hst
    refine wpAnyL_firstR h0 (Region.noSelect_spec hsel) hs hc hn hkn (fun listed' a' hL j hj => ?_) l.length listed a inv (Region.free_spec h0 hf) hr' hy
      (wpAnyL_mid hsel hs hc hn l (k + 1) _ _ (fun j hj => by have := hl (j + 1) (by simp; omega); simpa [Nat.add_assoc, Nat.add_comm 1 j] using this) (by simp only [List.length_cons] at hk; omega) (inv.set hr' hkn) hB' hK)
    have h1 := hL.1
    simp only [midB, Bool.and_eq_true, decide_eq_true_eq] at h1
    rw [h1.1] at hj
    have : j = n := by simpa using hj
    omega
/-- Whatever a walk asks of the ends that are not the plain one. -/
def midQ (P : Program) (ops : Array Oper) (Q : Exit → Act → World → Prop) (l : List Oper) : Exit → Act → World → Prop
  | .normal, a, w => wpStill P ops w (fun a' => Q .normal a' w) l a
  | e, a, w => Q e a w
theorem wp_ends {o : Oper} {a : Act} {w : World} {K : Act → World → Prop} {Q Q' : Exit → Act → World → Prop} (hp : ∀ c a w, Q' (.panic c) a w → Q (.panic c) a w) (ho : LetsOut Q' → LetsOut Q) (h : o.wp P a w K Q') : o.wp P a w K Q := by
  unfold Oper.wp at *
  generalize (execOp a.eval o).run P w = r at *
  cases r with
  | ok n w' =>
    cases n <;> simp only [Oper.upon] at h ⊢ <;>
      first
        | exact h
        | exact Calls.mono h (fun e w'' he => by cases e <;> first | exact he | exact hp _ _ _ he | exact ho he)
  | halt x w' => cases x <;> simp only [Oper.upon] at h ⊢ <;> first | exact h | exact hp _ _ _ h
theorem wp_region_mid {id : Nat} {Q : Exit → Act → World → Prop} {a : Act} {w : World} {l : List Oper} (n : Nat) (hm : P.follows .mixedOrders = true) (hB : lexMidB .any l.toArray n = true)
    (h : wpStill P l.toArray w.drew (fun a' => wpList P l.toArray (midQ P l.toArray Q (l.drop (n + 1))) ((l.drop n).take 1) a' w.drew) (l.take n) a) : (Code.region id l.toArray true).wp P Q a w := by
  simp only [lexMidB, Bool.and_eq_true, decide_eq_true_eq] at hB
  obtain ⟨⟨⟨⟨hsel, hn⟩, hs⟩, hc⟩, hlex⟩ := hB
  have hn' : n < l.length := by simpa using hn
  have htl : (l.take n).length = n := by simp; omega
  have hdl : (l.drop (n + 1)).length = l.toArray.size - (n + 1) := by simp
  have inv0 : HeadInv .any l.toArray n (Array.replicate l.toArray.size false) :=
    ⟨by simp, fun j oj _ hl => (by rw [getD_replicate_false] at hl; cases hl), fun t _ ht => getD_in (by simpa using ht) (getD_replicate_false _ _)⟩
  have H := wpAnyL_mid (md := .any) hsel hs hc hn (l.take n) 0 _ a (fun j hj => by
    have hj' : j < n := by rw [htl] at hj; exact hj
    simp [hj']) (by simpa using htl) inv0 (by rw [htl]; exact hlex) h
  refine wp_region_any hm ?_
  obtain ⟨o, ho⟩ : ∃ o, l[n]? = some o := ⟨_, List.getElem?_eq_getElem hn'⟩
  have hon : (l.drop n).take 1 = [o] := by
    rw [List.drop_eq_getElem_cons hn']
    have : l[n] = o := by rw [List.getElem?_eq_getElem hn'] at ho; exact Option.some.inj ho
    simp [this]
  have := wpAny_of_head (Q' := Q) (g := l.toArray.size - (n + 1) + 1) (fun listed a' hL => by
    obtain ⟨h1, h2⟩ := hL
    simp only [midB, Bool.and_eq_true, decide_eq_true_eq] at h1
    refine ⟨fun h0 => (by rw [h1.1] at h0; cases h0), fun i hi => ?_⟩
    rw [h1.1] at hi
    have hin : i = n := by simpa using hi
    subst hin
    rw [hon] at h2
    have ho' : l.toArray[i]? = some o := by simpa using ho
    have key : wpOp P l.toArray Q i (fun a2 w2 => wpStill P l.toArray w2 (fun a3 => Q .normal a3 w2) (l.drop (i + 1)) a2) a' w.drew := by
      unfold wpOp
      simp only [ho']
      have h2 : if Region.wanted o (yielded l.toArray a'.tmps) then o.wp P a' w.drew (wpList P l.toArray (midQ P l.toArray Q (l.drop (i + 1))) []) (midQ P l.toArray Q (l.drop (i + 1))) ∨ (o.asks P a' w.drew ∧ LetsOut (midQ P l.toArray Q (l.drop (i + 1)))) else wpList P l.toArray (midQ P l.toArray Q (l.drop (i + 1))) [] (a'.put o.dst undef) w.drew := h2
      have lo : LetsOut (midQ P l.toArray Q (l.drop (i + 1))) → LetsOut Q := fun ⟨a, w, q⟩ => ⟨a, w, q⟩
      split at h2
      · rename_i hw
        rw [if_pos hw]
        rcases h2 with h2 | h2
        · exact .inl (wp_ends (fun _ _ _ q => q) lo h2)
        · exact .inr ⟨h2.1, lo h2.2⟩
      · rename_i hw
        rw [if_neg hw]
        exact h2
    refine wpOp_mono (fun a2 w2 h3 => ?_) key
    have h4 := wpAnyS_lex (w := w2) (md := .any) hsel (l.drop (i + 1)) (i + 1) (listed.setIfInBounds i true) a2 (fun j => by simp [List.getElem?_drop]) (by rw [hdl]; exact h1.2) h3
    rw [hdl] at h4
    exact wpAny_of_still (fun _ h => h) _ _ _ h4) _ _ _ H
  rw [htl, show n + (l.toArray.size - (n + 1) + 1) = l.toArray.size by simp; omega] at this
  exact this
end Go.Proofs.YtjhnpcnamclfbaaGreatDoor
