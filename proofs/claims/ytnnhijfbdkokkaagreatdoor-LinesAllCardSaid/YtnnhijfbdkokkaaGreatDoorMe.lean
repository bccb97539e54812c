/- A day's date by the document: the year is sought by halves, the month one by one. A day's text by the document. No condition. -/
import Derived.Test.YtnnhijfbdkokkaaGreatDoorMb
import Derived.Test.YtnnhijfbdkokkaaGreatDoorMk
/-! A day's date by the document: the year is sought by halves, the month one by one. -/
namespace Go.Proofs.YtnnhijfbdkokkaaGreatDoor
open Go Go.Eng Go.RowKit
noncomputable section
set_option maxRecDepth 100000

/-! The symbols: 0 the day; 10, 11 the least year and the greatest; 12 .. 16 their middle; 20, 100 .. what is left of the year. -/
def ED (o : List OR) (k : List KR) : Env := E0.askM 9 o [] (memoKH gl k)
def ntD : Nat := 49
def keepD : List (Nat × AV) := [(0, .sym 0), (5, .sym 10), (6, .sym 11)]
def thD (lo hi : AV) : List (Nat × AV) := [(0, .sym 0), (10, lo), (11, hi)]
def orD0 : List OR := [⟨13, [.sym 0, .int .i64 1], .bool false⟩, ⟨15, [.sym 0, .int .i64 3652059], .bool false⟩]
def tpD0 : Option (List AItem) := bnd (startM (ED orD0 []) (stOf gl) fDate1 [.sym 0]) (toPat (ED orD0 []) gl [] 2 1000 0 fDate1 ntD keepD [] (thD (.int .i64 1) (.int .i64 9999)) [])
def tdD : List AItem := match tpD0 with | some t => t | none => []
theorem runD0 : tpD0 = some tdD := by kernel_rfl
theorem tdD_noD : noD tdD = true := by kernel_rfl
def pD : AM := patM gl [] fDate1 ntD tdD keepD []
def orD1 (b : Bool) : List OR := [⟨13, [.sym 10, .sym 11], .bool true⟩, ⟨0, [.sym 10, .sym 11], .sym 12⟩, ⟨0, [.sym 12, .int .i64 1], .sym 13⟩, ⟨3, [.sym 13, .int .i64 2], .sym 14⟩, ⟨cv tDay tInt, [.sym 0], .sym 0⟩, ⟨13, [.sym 15, .sym 0], .bool b⟩, ⟨1, [.sym 14, .int .i64 1], .sym 16⟩]
def krD1 : List KR := [⟨fAhead1, [.sym 14], ⟨.sym 15, []⟩⟩]
theorem runD1 : toPat (ED (orD1 true) krD1) gl [] 2 1000 0 fDate1 ntD keepD [] (thD (.sym 14) (.sym 11)) [] pD = some tdD := by kernel_rfl
theorem runD2 : toPat (ED (orD1 false) krD1) gl [] 2 1000 0 fDate1 ntD keepD [] (thD (.sym 10) (.sym 16)) [] pD = some tdD := by kernel_rfl
def orD3 (l : Bool) (mm : Nat) : List OR := [⟨13, [.sym 10, .sym 11], .bool false⟩, ⟨cv tDay tInt, [.sym 0], .sym 0⟩, ⟨1, [.sym 0, .sym 20], .sym 100⟩] ++ flatR (fun j => orMonth l mm j) mm
def krD3 (l : Bool) (mm : Nat) : List KR := ⟨fAhead1, [.sym 10], ⟨.sym 20, []⟩⟩ :: (upTo mm).map (fun j => ⟨fLong1, [.sym 10, .int .i64 (Int.ofNat (Nat.succ j))], ⟨.int .i64 (Int.ofNat (longN l (Nat.succ j))), []⟩⟩)
theorem runD3 : ∀ l : Bool, allB (fun mm => retIs (ED (orD3 l mm) (krD3 l mm)) fDate1 (.tuple [.sym 10, .int .i64 (Int.ofNat mm), .sym (Nat.add 99 mm)]) (runS (ED (orD3 l mm) (krD3 l mm)) doneA 2000 pD)) months12 = true := by
  intro l
  cases l <;> kernel_rfl
def orDn (a b : Bool) : List OR := [⟨13, [.sym 0, .int .i64 1], .bool a⟩, ⟨15, [.sym 0, .int .i64 3652059], .bool b⟩]
theorem runDn : ∀ a b : Bool, (a || b) = true → rowRun (E0.askH 9 (orDn a b) (memoKH glC [])) glC fDate1 [.sym 0] 200 (.tuple [.int .i64 0, .int .i64 0, .int .i64 0]) = true := by
  intro a b h
  cases a <;> cases b <;> first | (cases h; done) | kernel_rfl

theorem c_date1_none (z : Int) (h : ¬ (1 ≤ z ∧ z ≤ 3652059)) : CV fDate1 #[.int .i64 z] (.tuple #[.int .i64 0, .int .i64 0, .int .i64 0]) := by
  have hab : (decide (z < 1) || decide (3652059 < z)) = true := by
    rw [Bool.or_eq_true, decide_eq_true_eq, decide_eq_true_eq]; omega
  refine CallsV.script (E := E0) envOK 9 (σ := fun i => match i with | 0 => .int .i64 z | _ => .nilIface) (orows := orDn (decide (z < 1)) (decide (3652059 < z))) (krows := []) (fun m r hr => ?_) (fun m r hr => by cases hr) (rowRun_H (runDn _ _ hab)) (fun m => ⟨_, _, rfl, ⟨rfl, rfl⟩, rfl⟩) (fun m => ⟨_, rfl, _, _, rfl, rfl, _, _, rfl, rfl, _, _, rfl, rfl, rfl⟩) rfl
  simp only [orDn, List.mem_cons, List.mem_nil_iff, or_false] at hr
  rcases hr with rfl | rfl
  · exact RowOK.cmp .i64 (x := z) (y := 1) rfl rfl (.inr (.inr (.inl ⟨rfl, rfl⟩)))
  · exact RowOK.cmp .i64 (x := z) (y := 3652059) rfl rfl (.inr (.inr (.inr (.inr (.inl ⟨rfl, rfl⟩)))))

def sgD1 (n lo hi : Nat) (l : Bool) (i : Nat) : Value :=
  if i = 0 then .int .i64 (n : Int) else if i = 10 then .int .i64 (lo : Int) else if i = 11 then .int .i64 (hi : Int) else if i = 12 then .int .i64 ((lo : Int) + hi) else if i = 13 then .int .i64 ((lo : Int) + hi + 1)
  else if i = 14 then .int .i64 (((lo + hi + 1) / 2 : Nat) : Int) else if i = 15 then .int .i64 (aheadI (((lo + hi + 1) / 2 : Nat) : Int)) else if i = 16 then .int .i64 ((((lo + hi + 1) / 2 : Nat) : Int) - 1)
  else if i = 20 then .int .i64 (aheadI (lo : Int)) else .int .i64 ((n : Int) - aheadN lo - daysM l (i - 100))
section
variable {n lo hi : Nat} {l : Bool} {m : Int}
theorem sgD1_d {i : Nat} : sgD1 n lo hi l (100 + i) = .int .i64 ((n : Int) - aheadN lo - daysM l i) := by
  unfold sgD1
  rw [if_neg (by omega), if_neg (by omega), if_neg (by omega), if_neg (by omega), if_neg (by omega), if_neg (by omega), if_neg (by omega), if_neg (by omega), if_neg (by omega), Nat.add_sub_cancel_left]
theorem cD {i : Nat} {x : Int} (h : i ≠ 900) (e : sgD1 n lo hi l i = .int .i64 x) : conc (withM (sgD1 n lo hi l) m) (.sym i) = .int .i64 x := conc_at h e

theorem v0 : withM (sgD1 n lo hi l) m 0 = .int .i64 (n : Int) := rfl
theorem v10 : withM (sgD1 n lo hi l) m 10 = .int .i64 (lo : Int) := rfl
theorem v11 : withM (sgD1 n lo hi l) m 11 = .int .i64 (hi : Int) := rfl
theorem v14 : withM (sgD1 n lo hi l) m 14 = .int .i64 (((lo + hi + 1) / 2 : Nat) : Int) := rfl
theorem v16 : withM (sgD1 n lo hi l) m 16 = .int .i64 ((((lo + hi + 1) / 2 : Nat) : Int) - 1) := rfl
/-- The frame at the loop's head. -/
def AtD (w : World) (ρ0 : Rho) (σ : Nat → Value) (cs : List Frame) (M : Machine) : Prop :=
  ∃ b w1, (∀ j, j < w.heap.size → b j) ∧ Below w.heap.size w w1 ∧ ∀ E : Env, Live E b ρ0 σ cs pD M w1
def OutD (w : World) (cs : List Frame) (y mm d : Nat) (M : Machine) : Prop :=
  Wins Tryz.prog fDate1 cs (fun e w' => e = .returned (.tuple #[.int .i64 (y : Int), .int .i64 (mm : Int), .int .i64 (d : Int)]) ∧ Below w.heap.size w w') M

theorem envD (o : List OR) (k : List KR) {σ : Nat → Value} (ho : ∀ r ∈ o, RowOK (ED o k) 9 σ r) (hk : ∀ r ∈ k, KRow Tryz.prog gl σ r.f r.args r.img) : EnvS (ED o k) σ ∧ MemoOK (ED o k) σ :=
  ⟨EnvS.askM envOK ho (fun r hr => by cases hr), memoKH_ok (E := ED o k) rfl hk⟩

theorem kr_ahead1 {σ : Nat → Value} {i j : Nat} {y : Nat} (hm : σ kM = .int .i64 m) (h1 : 1 ≤ y) (h2 : y ≤ 20000) (hi : σ i = .int .i64 (y : Int)) (hj : σ j = .int .i64 (aheadI (y : Int))) : KRow Tryz.prog gl σ fAhead1 [.sym i] ⟨.sym j, []⟩ :=
  KRow.ofC hm rfl rfl (va := #[.int .i64 (y : Int)]) ⟨_, _, rfl, ⟨hi.symm, rfl⟩, rfl⟩ (.inl rfl) (u := .int .i64 (aheadI (y : Int))) ⟨hj.symm, rfl⟩ (c_ahead1 (by omega) (by omega)).all

theorem date_end {w : World} {ρ0 : Rho} {cs : List Frame} {y mm d : Nat} (hd : Dated n y mm d) {M : Machine} (h : AtD w ρ0 (withM (sgD1 n y y (leapB (y : Int))) m) cs M) : OutD w cs y mm d M := by
  obtain ⟨b, w1, q1, q2, q3⟩ := h
  have hr := hd.range
  have lo_ := hd.lo
  have e1 := hd.e
  have T := daysM_le (leapB (y : Int))
  have Mo : ∀ {a b : Nat}, a ≤ b → daysM (leapB (y : Int)) a ≤ daysM (leapB (y : Int)) b := fun h => daysM_mono _ h
  have y1 := hd.y1; have y2 := hd.y2; have m1 := hd.m1; have m2 := hd.m2
  have mon := hd.mon
  have c0 : conc (withM (sgD1 n y y (leapB (y : Int))) m) (.sym 0) = .int .i64 (n : Int) := cD (by decide) rfl
  have c20 : conc (withM (sgD1 n y y (leapB (y : Int))) m) (.sym 20) = .int .i64 (aheadI (y : Int)) := cD (by decide) rfl
  have cd : ∀ i, i < 700 → conc (withM (sgD1 n y y (leapB (y : Int))) m) (.sym (100 + i)) = .int .i64 ((n : Int) - aheadN y - daysM (leapB (y : Int)) i) := fun i hi => cD (by omega) sgD1_d
  obtain ⟨ok, mo⟩ := envD (orD3 (leapB (y : Int)) mm) (krD3 (leapB (y : Int)) mm) (σ := withM (sgD1 n y y (leapB (y : Int))) m) (fun r hr => by
    unfold orD3 at hr
    rcases List.mem_append.1 hr with hr | hr
    · simp only [List.mem_cons, List.mem_nil_iff, or_false] at hr
      rcases hr with rfl | rfl | rfl
      · exact RowOK.cmp .i64 (x := (y : Int)) (y := (y : Int)) rfl rfl (.inr (.inr (.inl ⟨rfl, by symm; rw [decide_eq_false_iff_not]; omega⟩)))
      · exact RowOK.conv (u := tDay) (d := tInt) (k := .i64) (k' := .i64) (n := (n : Int)) (by show und E0 tDay = some (.int .i64); kernel_rfl) (by show und E0 tInt = some (.int .i64); kernel_rfl) c0 (by rw [c0, wrap64_id (by omega) (by omega)]) (by decide)
      · exact RowOK.sub64 (x := (n : Int)) (y := aheadI (y : Int)) c0 c20 (cd 0 (by omega)) (by rw [ahead_eq (by omega)]; show _ = (n : Int) - aheadN y - ((0 : Nat) : Int); omega) (by show _ ≤ (n : Int) - aheadN y - ((0 : Nat) : Int); omega) (by show (n : Int) - aheadN y - ((0 : Nat) : Int) < _; omega)
    · obtain ⟨j, hj, hr⟩ := flatR_mem hr
      simp only [orMonth, List.mem_cons, List.mem_nil_iff, or_false] at hr
      have hs : daysM (leapB (y : Int)) (j + 1) = daysM (leapB (y : Int)) j + longN (leapB (y : Int)) (j + 1) := rfl
      have t1 := T (j + 1)
      rcases hr with rfl | rfl
      · refine RowOK.cmp .i64 (x := (n : Int) - aheadN y - daysM (leapB (y : Int)) j) (y := ((longN (leapB (y : Int)) (j + 1) : Nat) : Int)) (cd j (by omega)) rfl (.inr (.inr (.inr (.inr (.inl ⟨rfl, ?_⟩)))))
        rw [blt_iff]
        by_cases hjm : j + 1 < mm
        · have := Mo (a := j + 1) (b := mm - 1) (by omega)
          rw [show decide (Nat.succ j < mm) = true from decide_eq_true hjm]; symm; rw [decide_eq_true_eq]; omega
        · have : mm = j + 1 := by omega
          subst this
          rw [show decide (Nat.succ j < j + 1) = false from decide_eq_false (by omega)]; symm; rw [decide_eq_false_iff_not]; omega
      · exact RowOK.sub64 (x := (n : Int) - aheadN y - daysM (leapB (y : Int)) j) (y := ((longN (leapB (y : Int)) (j + 1) : Nat) : Int)) (cd j (by omega)) rfl (show conc _ (.sym (101 + j)) = _ from by rw [show 101 + j = 100 + (j + 1) by omega]; exact cd (j + 1) (by omega)) (by rw [hs]; omega) (by omega) (by omega))
    (fun r hr => by
    unfold krD3 at hr
    rcases List.mem_cons.1 hr with rfl | hr
    · exact kr_ahead1 (withM_kM _ _) (y := y) (by omega) (by omega) rfl rfl
    · obtain ⟨j, hj, rfl⟩ := List.mem_map.1 hr
      have hj := upTo_mem.1 hj
      exact KRow.ofC (withM_kM _ _) rfl rfl (va := #[.int .i64 (y : Int), .int .i64 ((j + 1 : Nat) : Int)]) ⟨_, _, rfl, ⟨rfl, rfl⟩, _, _, rfl, rfl, rfl⟩ (.inl rfl) (u := .int .i64 ((longN (leapB (y : Int)) (j + 1) : Nat) : Int)) rfl (c_long1 (by omega) (by omega) (by omega)).all)
  refine ((q3 (ED (orD3 (leapB (y : Int)) mm) (krD3 (leapB (y : Int)) mm))).wins ok mo (Hold.all (fun _ => True.intro) _ _) (allB_spec (runD3 _) mm (months12_mem m1 m2))).mono ?_
  rintro e w' ⟨u, ρ', rfl, hu, hK⟩
  refine ⟨?_, Below.kept q2 hK q1⟩
  obtain ⟨vs, rfl, x, r, e2, hx, x2, r2, rfl, hx2, x3, r3, rfl, hx3, rfl⟩ := hu
  obtain ⟨hx, _⟩ := hx
  obtain ⟨hx3, _⟩ := hx3
  have hx2 : x2 = .int .i64 (mm : Int) := hx2
  have ex : x = .int .i64 (y : Int) := hx
  have ex3 : x3 = .int .i64 (d : Int) := by
    rw [hx3]
    show withM _ _ (99 + mm) = _
    rw [withM_ne (by omega), show 99 + mm = 100 + (mm - 1) by omega, sgD1_d]
    congr 1; omega
  have : vs = #[.int .i64 (y : Int), .int .i64 (mm : Int), .int .i64 (d : Int)] := Array.ext' (by rw [e2, ex, hx2, ex3])
  rw [this]

theorem date_loop {w : World} {ρ0 : Rho} {cs : List Frame} {y mm d : Nat} (hd : Dated n y mm d) : ∀ fuel lo hi : Nat, hi - lo ≤ fuel → 1 ≤ lo → lo ≤ y → y ≤ hi → hi ≤ 9999 → ∀ M, AtD w ρ0 (withM (sgD1 n lo hi (leapB (y : Int))) m) cs M → OutD w cs y mm d M := by
  have hr := hd.range
  have hlo := hd.lo
  have hhi := hd.hi
  intro fuel
  induction fuel with
  | zero =>
    intro lo hi hf h1 h2 h3 h4 M h
    obtain rfl : lo = y := by omega
    obtain rfl : hi = lo := by omega
    exact date_end hd h
  | succ fuel ih =>
    intro lo hi hf h1 h2 h3 h4 M h
    by_cases hlt : lo < hi
    case neg =>
      obtain rfl : lo = y := by omega
      obtain rfl : hi = lo := by omega
      exact date_end hd h
    obtain ⟨b, w1, q1, q2, q3⟩ := h
    have hmid : lo < (lo + hi + 1) / 2 ∧ (lo + hi + 1) / 2 ≤ hi := by omega
    have ah : aheadN ((lo + hi + 1) / 2) ≤ 3652059 := by
      have := ahead_mono (y := (lo + hi + 1) / 2) (z := 10000) (by omega) (by omega)
      have e : aheadN 10000 = 3652059 := by decide
      omega
    have rows : ∀ (bb : Bool), bb = decide (aheadN ((lo + hi + 1) / 2) < n) → EnvS (ED (orD1 bb) krD1) (withM (sgD1 n lo hi (leapB (y : Int))) m) ∧ MemoOK (ED (orD1 bb) krD1) (withM (sgD1 n lo hi (leapB (y : Int))) m) := fun bb hb => envD _ _ (fun r hr => by
      simp only [orD1, List.mem_cons, List.mem_nil_iff, or_false] at hr
      rcases hr with rfl | rfl | rfl | rfl | rfl | rfl | rfl
      · exact RowOK.cmp .i64 (x := (lo : Int)) (y := (hi : Int)) rfl rfl (.inr (.inr (.inl ⟨rfl, by symm; rw [decide_eq_true_eq]; omega⟩)))
      · exact RowOK.add64 (x := (lo : Int)) (y := (hi : Int)) rfl rfl rfl rfl (by omega) (by omega)
      · exact RowOK.add64 (x := (lo : Int) + hi) (y := 1) rfl rfl rfl rfl (by omega) (by omega)
      · refine RowOK.quo64 (x := (lo : Int) + hi + 1) (y := 2) rfl rfl rfl (by decide) ?_ (by omega) (by omega)
        rw [Int.tdiv_eq_ediv_of_nonneg (by omega)]; omega
      · exact RowOK.conv (u := tDay) (d := tInt) (k := .i64) (k' := .i64) (n := (n : Int)) (by show und E0 tDay = some (.int .i64); kernel_rfl) (by show und E0 tInt = some (.int .i64); kernel_rfl) rfl (by rw [wrap64_id (by omega) (by omega)]; rfl) (by decide)
      · refine RowOK.cmp .i64 (x := aheadI (((lo + hi + 1) / 2 : Nat) : Int)) (y := (n : Int)) rfl rfl (.inr (.inr (.inl ⟨rfl, ?_⟩)))
        rw [hb, ahead_eq (by omega), decide_eq_decide]; omega
      · exact RowOK.sub64 (x := (((lo + hi + 1) / 2 : Nat) : Int)) (y := 1) rfl rfl rfl rfl (by omega) (by omega)) (fun r hr => by
      simp only [krD1, List.mem_cons, List.mem_nil_iff, or_false] at hr
      subst hr
      exact kr_ahead1 (withM_kM _ _) (y := (lo + hi + 1) / 2) (by omega) (by omega) rfl rfl)
    by_cases hb : aheadN ((lo + hi + 1) / 2) < n
    · obtain ⟨ok, mo⟩ := rows true (decide_eq_true hb).symm
      obtain ⟨M', w', b', g1, g2, g3, g4⟩ := (q3 (ED (orD1 true) krD1)).toPat (E' := E0) (σ' := withM (sgD1 n ((lo + hi + 1) / 2) hi (leapB (y : Int))) m) ok mo (Hold.all (fun _ => True.intro) _ _) runD1 glOK gl_bareM rfl ((withM_kM _ _).trans (withM_kM _ _).symm) ⟨congrArg some (v0.trans v0.symm), congrArg some (v14.trans v10.symm), congrArg some (v11.trans v11.symm), trivial⟩
      refine Wins.steps g1 (ih _ hi (by omega) (by omega) ?_ h3 h4 M' ⟨b', w', fun j hj => g3 _ (q1 j hj), Below.kept q2 g2 q1, fun E => Live.env g4 rfl tdD_noD⟩)
      apply Nat.le_of_not_lt
      intro hc
      have := ahead_mono (y := y + 1) (z := (lo + hi + 1) / 2) (by omega) (by omega)
      omega
    · obtain ⟨ok, mo⟩ := rows false (decide_eq_false hb).symm
      obtain ⟨M', w', b', g1, g2, g3, g4⟩ := (q3 (ED (orD1 false) krD1)).toPat (E' := E0) (σ' := withM (sgD1 n lo ((lo + hi + 1) / 2 - 1) (leapB (y : Int))) m) ok mo (Hold.all (fun _ => True.intro) _ _) runD2 glOK gl_bareM rfl ((withM_kM _ _).trans (withM_kM _ _).symm) ⟨congrArg some (v0.trans v0.symm), congrArg some (v10.trans v10.symm), congrArg some (v16.trans ((show Value.int .i64 ((((lo + hi + 1) / 2 : Nat) : Int) - 1) = Value.int .i64 (((lo + hi + 1) / 2 - 1 : Nat) : Int) from by congr 1; omega).trans v11.symm)), trivial⟩
      refine Wins.steps g1 (ih lo _ (by omega) h1 h2 ?_ (by omega) M' ⟨b', w', fun j hj => g3 _ (q1 j hj), Below.kept q2 g2 q1, fun E => Live.env g4 rfl tdD_noD⟩)
      apply Nat.le_of_not_lt
      intro hc
      have := ahead_mono (y := (lo + hi + 1) / 2) (z := y) (by omega) (by omega)
      omega
end
/-- A day's date, by the document: as civil's. -/
theorem c_date1 {n y mm d : Nat} (hd : Dated n y mm d) : CallsV Tryz.prog gl fDate1 #[.int .i64 (n : Int)] (.tuple #[.int .i64 (y : Int), .int .i64 (mm : Int), .int .i64 (d : Int)]) := by
  intro w ⟨m, hm⟩ _ cs
  have hr := hd.range
  obtain ⟨ρ, hR⟩ := hm (withM (sgD1 n 1 9999 (leapB (y : Int))) m) (withM_kM _ _)
  have run := runD0
  unfold tpD0 at run
  obtain ⟨m0, hm0, hm1⟩ := bnd_some run
  obtain ⟨fr, hfr, rfl⟩ := startM_some hm0
  obtain ⟨ok, mo⟩ := envD orD0 [] (σ := withM (sgD1 n 1 9999 (leapB (y : Int))) m) (fun r hr => by
    simp only [orD0, List.mem_cons, List.mem_nil_iff, or_false] at hr
    rcases hr with rfl | rfl
    · exact RowOK.cmp .i64 (x := (n : Int)) (y := 1) rfl rfl (.inr (.inr (.inl ⟨rfl, by symm; rw [decide_eq_false_iff_not]; omega⟩)))
    · exact RowOK.cmp .i64 (x := (n : Int)) (y := 3652059) rfl rfl (.inr (.inr (.inr (.inr (.inl ⟨rfl, by symm; rw [decide_eq_false_iff_not]; omega⟩)))))) (fun r hr => by cases hr)
  have hL0 := Live.start (E := ED orD0 []) (cs := cs) ok.ok hR (args := [.sym 0]) (va := #[.int .i64 (n : Int)]) ⟨_, _, rfl, ⟨rfl, rfl⟩, rfl⟩ hfr
  obtain ⟨M', w', b', g1, g2, g3, g4⟩ := hL0.toPat (E' := E0) (σ' := withM (sgD1 n 1 9999 (leapB (y : Int))) m) ok mo (Hold.all (fun _ => True.intro) _ _) hm1 glOK gl_bareM rfl rfl ⟨rfl, rfl, rfl, trivial⟩
  exact Wins.steps g1 (date_loop hd 9999 1 9999 (by omega) (by omega) hd.y1 hd.y2 (by omega) M' ⟨b', w', fun j hj => g3 _ hj, Below.kept (Below.refl _ _) g2 (fun _ h => h), fun E => Live.env g4 rfl tdD_noD⟩)
end
end Go.Proofs.YtnnhijfbdkokkaaGreatDoor

/-! A day's text by the document. -/
namespace Go.Proofs.YtnnhijfbdkokkaaGreatDoor
open Go Go.Eng Go.RowKit
noncomputable section
set_option maxRecDepth 100000

theorem c_text18 {k : Nat} {ρt : Rho} (hk : k < 4) {p : Value} (hp : PtrX k ρt p) {n y mm d : Nat} (hd : Dated n y mm d) : CT k ρt fText18 #[p, .int .i64 (n : Int)] (strV (lineF k n)) := by
  have hr0 := hd.range
  have hw : (n - 1) % 7 < 7 := Nat.mod_lt _ (by omega)
  have hm : mm - 1 < 12 := by have := hd.m1; have := hd.m2; omega
  have w1 := wd_ok7 hk hw
  have w2 := mo_ok12 hk hm
  have l1 := toB_len w1
  have l2 := toB_len w2
  have l3 : (Lib.decDigits d).length ≤ 2 := by rw [Lib.decDigits_length]; exact nDigits_le 1 d (by have := hd.d31; omega)
  have l4 : (Lib.decDigits y).length ≤ 4 := by rw [Lib.decDigits_length]; exact nDigits_le 3 y (by have := hd.y2; omega)
  rw [lineF_eq hd]
  have hE : ELy (tabW k ρt) k ((n - 1) % 7) mm = (Et k ρt).ask 9 (orLy ((n - 1) % 7)) (memoOr (memoJ fJoin [32] (jrLy k ((n - 1) % 7) mm)) (memoKH gl (krLy mm))) := Env.askH_eq _ _ _ _
  have run := runLy (tabW k ρt) hk hw hd.m1 hd.m2
  unfold runLy1 at run
  rw [hE] at run
  refine CallsV.runX (E := (Et k ρt).ask 9 (orLy ((n - 1) % 7)) (memoOr (memoJ fJoin [32] (jrLy k ((n - 1) % 7) mm)) (memoKH gl (krLy mm)))) (ρt := ρt) (σ := sgLy k n y mm d) glOK (allB_spec tab_fit k (mem_k4 hk)) (fun m => EnvS.ask (envEt k ρt) (fun r hr => ?_)) (fun m => MemoOK.or (E := (Et k ρt).ask 9 (orLy ((n - 1) % 7)) (memoOr (memoJ fJoin [32] (jrLy k ((n - 1) % 7) mm)) (memoKH gl (krLy mm)))) (memoJ_ok (E := (Et k ρt).ask 9 (orLy ((n - 1) % 7)) (memoOr (memoJ fJoin [32] (jrLy k ((n - 1) % 7) mm)) (memoKH gl (krLy mm)))) (sep := ⟨#[32]⟩) (fun r hr => ?_)) (memoKH_ok (E := (Et k ρt).ask 9 (orLy ((n - 1) % 7)) (memoOr (memoJ fJoin [32] (jrLy k ((n - 1) % 7) mm)) (memoKH gl (krLy mm)))) rfl (fun r hr => ?_))) run (fun m ρ hρ => ⟨_, _, rfl, hp.vr hρ, _, _, rfl, ⟨rfl, rfl⟩, rfl⟩) (fun m => ⟨rfl, rfl⟩) rfl (fun _ h => h.1) (fun w h => tabW_all k ρt w h)
  · simp only [orLy, List.mem_cons, List.mem_nil_iff, or_false] at hr
    rcases hr with rfl | rfl | rfl | rfl
    · exact RowOK.cmp .i64 (x := (y : Int)) (y := 0) rfl rfl (.inl ⟨rfl, by symm; rw [decide_eq_false_iff_not]; have := hd.y1; omega⟩)
    · exact RowOK.conv (u := tDay) (d := tInt) (k := .i64) (k' := .i64) (n := (n : Int)) (by show und E0 tDay = some (.int .i64); kernel_rfl) (by show und E0 tInt = some (.int .i64); kernel_rfl) rfl (by rw [wrap64_id (by omega) (by omega)]; rfl) (by decide)
    · exact RowOK.add64 (x := (n : Int)) (y := 6) rfl rfl rfl rfl (by omega) (by omega)
    · refine RowOK.rem .i64 (x := (n : Int) + 6) (y := 7) (z := (((n - 1) % 7 : Nat) : Int)) rfl rfl rfl (by decide) ?_
      have : (n : Int) + 6 = ((n + 6 : Nat) : Int) := by omega
      rw [this]
      refine (tmodN (n + 6) 7).trans ?_
      congr 1; omega
  · simp only [jrLy, List.mem_cons, List.mem_nil_iff, or_false] at hr
    subst hr
    have hb := line_bare hk hd
    have hF : Flds (withM (sgLy k n y mm d) m) [.str (wdA k ((n - 1) % 7)), .sym 3, .str (moA k (Nat.pred mm))] [toB (wdA k ((n - 1) % 7)), Lib.decDigits d, toB (moA k (mm - 1))] := by
      refine ⟨?_, Fld.sym (dec_bare d) rfl, ?_, trivial⟩
      · have := Fld.str (σ := withM (sgLy k n y mm d) m) (toB_bare w1)
        rwa [nats_toB w1] at this
      · have := Fld.str (σ := withM (sgLy k n y mm d) m) (toB_bare w2)
        rwa [nats_toB w2] at this
    exact jrow_ok (z := 4) (i := 9) hF rfl rfl (by simp) (by
      simp only [tailS, List.length_append, List.length_cons]; omega)
  · simp only [krLy, List.mem_cons, List.mem_nil_iff, or_false] at hr
    rcases hr with rfl | rfl | rfl
    · exact KRow.ofC (withM_kM _ _) rfl rfl (va := #[.int .i64 (n : Int)]) ⟨_, _, rfl, ⟨rfl, rfl⟩, rfl⟩ (.inr ⟨_, rfl, rfl⟩) (u := .tuple #[.int .i64 (y : Int), .int .i64 (mm : Int), .int .i64 (d : Int)]) ⟨_, rfl, _, _, rfl, ⟨rfl, rfl⟩, _, _, rfl, rfl, _, _, rfl, ⟨rfl, rfl⟩, rfl⟩ (CallsV.more (c_date1 hd) fun _ _ => True.intro)
    · exact KRow.ofC (withM_kM _ _) rfl rfl (va := #[.int .i64 (d : Int)]) ⟨_, _, rfl, ⟨rfl, rfl⟩, rfl⟩ (.inl rfl) (u := strV (Lib.decDigits d)) ⟨rfl, rfl⟩ (CallsV.more (c_itoa d (by have := hd.d31; omega)).g fun _ h => h.2.1)
    · exact KRow.ofC (withM_kM _ _) rfl rfl (va := #[.int .i64 (y : Int)]) ⟨_, _, rfl, ⟨rfl, rfl⟩, rfl⟩ (.inl rfl) (u := strV (Lib.decDigits y)) ⟨rfl, rfl⟩ (CallsV.more (c_itoa y (by have := hd.y2; omega)).g fun _ h => h.2.1)
theorem c_text18I {k : Nat} {ρt : Rho} (hk : k < 4) {p : Value} (hp : PtrX k ρt p) (z : Int) : CT k ρt fText18 #[p, .int .i64 z] (strV (lineI k z)) := by
  by_cases h : 1 ≤ z ∧ z ≤ 3652059
  · obtain ⟨n, rfl⟩ : ∃ n : Nat, z = n := ⟨z.toNat, by omega⟩
    obtain ⟨y, mm, d, hd⟩ := dated n (by omega) (by omega)
    rw [lineI_nat (by omega) (by omega)]
    exact c_text18 hk hp hd
  · have e : lineI k z = [] := by unfold lineI; rw [if_neg h]
    rw [e]
    refine CT.script hk (σ := fun i => match i with | 0 => .int .i64 z | _ => .nilIface) (orows := []) (krows := krLz) (n := 300) (v := .str []) (args := [.ptr xN 0, .sym 0]) (fun m r hr => by cases hr) (fun m r hr => ?_) (allB_spec (runLz _) k (mem_k4 hk)) (fun m ρ hρ => ⟨_, _, rfl, hp.vr hρ, _, _, rfl, ⟨rfl, rfl⟩, rfl⟩) (fun m => ⟨_, rfl, rfl⟩) rfl
    simp only [krLz, List.mem_cons, List.mem_nil_iff, or_false] at hr
    subst hr
    exact KRow.ofC (withM_kM _ _) rfl rfl (va := #[.int .i64 z]) ⟨_, _, rfl, ⟨rfl, rfl⟩, rfl⟩ (.inr ⟨_, rfl, rfl⟩) (u := .tuple #[.int .i64 0, .int .i64 0, .int .i64 0]) ⟨_, rfl, _, _, rfl, rfl, _, _, rfl, rfl, _, _, rfl, rfl, rfl⟩ (CallsV.more (c_date1_none z h).all fun _ _ => True.intro)
end
end Go.Proofs.YtnnhijfbdkokkaaGreatDoor
