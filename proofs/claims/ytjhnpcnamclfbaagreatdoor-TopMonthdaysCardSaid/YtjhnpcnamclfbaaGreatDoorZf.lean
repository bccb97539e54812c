/- The period that a day is in. Weekdays of a month, of a year. Do the weekdays let a day? Do the weekdays let a day? The months' lengths, where they lie; civil.Long changes nothing. Do the days of the month let a day? No condition. -/
import Derived.Test.YtjhnpcnamclfbaaGreatDoorZa
import Derived.Deep.QuietTactic
import Derived.BigQuiet
import Derived.RegionTactic
import Derived.Deep.RegionWith
/-! The period that a day is in. -/
namespace Go.Proofs.YtjhnpcnamclfbaaGreatDoor
open Go Go.Eng Go.RowKit

theorem Dated.low {n y mm d : Nat} (h : Dated n y mm d) : d ≤ n := by have := h.e; omega
/-- A month's first day, and its last one. -/
theorem Dated.month {n y mm d : Nat} (h : Dated n y mm d) : n + 1 - d = aheadN y + 1 + daysM (leapB (y : Int)) (mm - 1) ∧ n - d + longN (leapB (y : Int)) mm ≤ lastN := by
  have e := h.e
  refine ⟨by have := h.d1; omega, ?_⟩
  have h1 : daysM (leapB (y : Int)) mm = daysM (leapB (y : Int)) (mm - 1) + longN (leapB (y : Int)) mm := by
    obtain ⟨q, rfl⟩ : ∃ q, mm = q + 1 := ⟨mm - 1, by have := h.m1; omega⟩
    rfl
  have h2 := daysM_mono (leapB (y : Int)) h.m2
  rw [days12] at h2
  have h3 := ahead_step y h.y1
  have h4 := ahead_mono (y := y + 1) (z := 10000) (by omega) (by have := h.y2; omega)
  have e4 : aheadN 10000 = 3652059 := by decide
  show _ ≤ 3652059
  omega

set_option maxRecDepth 100000 in
set_option maxHeartbeats 1000000 in
theorem period_calls (f : Int) {n : Nat} (h1 : 1 ≤ n) (h2 : n ≤ lastN) {w : World} (hw : Vars gl w) :
    Calls Tryz.prog 207 #[.int .i64 f, .int .i64 (n : Int)] w fun e w' => e = .returned (.agg #[.int .i64 ((perN f n).1 : Int), .int .i64 ((perN f n).2 : Int)]) ∧ Below w.heap.size w w' := by
  have h2' : n ≤ 3652059 := h2
  have tS := Tryz.underlying209; have aS := Tryz.isAgg209; have zS := Tryz.sizeOf209; have uS := run_underlying Tryz.underlying209
  have hD := dateN_dated h1 h2
  go_enter Tryz.func207, Tryz.ntmps207
  go_wp2_with fail
  have b1 : Below w.heap.size w (w.alloc (.cells #[.int .i64 0, .int .i64 0] 209)) := (Below.refl _ w).alloc (Nat.le_refl _) _
  refine (date_calls h1 h2 (Varsb hw b1)).mono ?_
  rintro e w2 ⟨rfl, b2⟩
  have hB2 : Box2 w2 w.heap.size 209 (.int .i64 0) (.int .i64 0) := (Box2.new w 209 _ _).keep (b2.block _ (by simp))
  have b2' : Below w.heap.size w w2 := b1.trans (b2.mono (by simp))
  by_cases f1 : f = 1
  · subst f1
    have hwd : wdN n ≤ n - 1 := Nat.mod_le _ _
    go_wp2_with fail
    refine (wday_calls h1 h2 _).mono ?_
    rintro e w3 ⟨rfl, rfl⟩
    have k0 := hB2.c0
    have k1 := hB2.c1
    have f0 := hB2.frozen 0
    have f1 := hB2.frozen 1
    go_wp2
    have e2 := (hB2.set0 (.int .i64 (max ((n : Int) - (wdN n : Int)) 1))).set1 (.int .i64 (min ((n : Int) - (wdN n : Int) + 6) 3652059))
    have e3 := e2.c0
    have e4 := e2.c1
    refine bodyPost_ret (v := .agg #[.int .i64 (max ((n : Int) - (wdN n : Int)) 1), .int .i64 (min ((n : Int) - (wdN n : Int) + 6) 3652059)]) (by simp [results, Tryz.results207, go_sem, e3, e4]) rfl ⟨?_, belowSet (belowSet b2' ⟨w.heap.size, 0, none⟩ _ (Nat.le_refl _)) ⟨w.heap.size, 1, none⟩ _ (Nat.le_refl _)⟩
    have e5 : (max ((n : Int) - (wdN n : Int)) 1) = ((perN 1 n).1 : Int) := by
      show _ = (((if (1 : Int) = 1 then (n - wdN n, min (n - wdN n + 6) lastN) else _) : Nat × Nat).1 : Int)
      rw [if_pos rfl]
      show _ = ((n - wdN n : Nat) : Int)
      omega
    have e6 : (min ((n : Int) - (wdN n : Int) + 6) 3652059) = ((perN 1 n).2 : Int) := by
      show _ = (((if (1 : Int) = 1 then (n - wdN n, min (n - wdN n + 6) lastN) else _) : Nat × Nat).2 : Int)
      rw [if_pos rfl]
      show _ = ((min (n - wdN n + 6) 3652059 : Nat) : Int)
      omega
    rw [e5, e6]
  · by_cases f2 : f = 2
    · subst f2
      have hm := hD.month
      obtain ⟨a, ha⟩ : ∃ a, a = n + 1 - (dateN n).2.2 := ⟨_, rfl⟩
      have hOf : ∀ W, Below w.heap.size w W → Calls Tryz.prog fOf #[.int .i64 ((dateN n).1 : Int), .int .i64 ((dateN n).2.1 : Int), .int .i64 1] W fun e w' => e = .returned (.tuple #[.int .i64 (a : Int), .bool true]) ∧ Below W.heap.size W w' := fun W hW => by
        have := CVc (c_of hD.y1 hD.y2 hD.m1 hD.m2 (d := 1) (Nat.le_refl _) (by have := hD.d1; have := hD.d2; omega)) (Varsb hw hW)
        rw [ha, hm.1]; exact this
      have hlow := hD.low
      have hd1 := hD.d1
      have hmx : n - (dateN n).2.2 + monthN n ≤ 3652059 := hm.2
      have hv : Hid (((perN 2 n).1 : Int) = (a : Int) ∧ ((perN 2 n).2 : Int) = (a : Int) + (monthN n : Int) - 1) := by
        have e : perN 2 n = (n + 1 - (dateN n).2.2, n - (dateN n).2.2 + monthN n) := by
          unfold perN
          rw [if_neg (by decide), if_pos rfl]
        rw [e]
        exact hidZ ⟨by rw [ha], by omega⟩
      have a1 : a ≤ 3652059 := by omega
      have a2 : monthN n ≤ 3652059 := by omega
      clear hm ha
      go_wp2_with fail
      refine (hOf _ b2').mono ?_
      rintro e w3 ⟨rfl, b3⟩
      have b3' := b2'.trans (b3.mono b2'.size)
      have hB3 := hB2.keep (b3.block _ hB2.lt)
      go_wp2_with fail
      refine (long_calls h1 h2 (Varsb hw b3')).mono ?_
      rintro e w4 ⟨rfl, b4⟩
      have b4' := b3'.trans (b4.mono b3'.size)
      have hB4 := hB3.keep (b4.block _ hB3.lt)
      have k0 := hB4.c0
      have k1 := hB4.c1
      have f0 := hB4.frozen 0
      have f1' := hB4.frozen 1
      go_wp2
      have e2 := (hB4.set0 (.int .i64 (a : Int))).set1 (.int .i64 ((a : Int) + (monthN n : Int) - 1))
      have e3 := e2.c0
      have e4 := e2.c1
      refine bodyPost_ret (v := .agg #[.int .i64 (a : Int), .int .i64 ((a : Int) + (monthN n : Int) - 1)]) (by simp [results, Tryz.results207, go_sem, e3, e4]) rfl ⟨?_, belowSet (belowSet b4' ⟨w.heap.size, 0, none⟩ _ (Nat.le_refl _)) ⟨w.heap.size, 1, none⟩ _ (Nat.le_refl _)⟩
      rw [hv.out.1, hv.out.2]
    · by_cases f3 : f = 3
      · subst f3
        obtain ⟨a, ha⟩ : ∃ a, a = aheadN (dateN n).1 + 1 := ⟨_, rfl⟩
        obtain ⟨z, hz⟩ : ∃ z, z = aheadN (dateN n).1 + (if leapB ((dateN n).1 : Int) then 366 else 365) := ⟨_, rfl⟩
        have hv : Hid (((perN 3 n).1 : Int) = (a : Int) ∧ ((perN 3 n).2 : Int) = (z : Int)) := by
          have e : perN 3 n = (aheadN (dateN n).1 + 1, aheadN (dateN n).1 + (if leapB ((dateN n).1 : Int) then 366 else 365)) := by
            unfold perN
            rw [if_neg (by decide), if_neg (by decide), if_pos rfl]
          rw [e]
          exact hidZ ⟨by rw [ha], by rw [hz]⟩
        have hOf1 : ∀ W, Below w.heap.size w W → Calls Tryz.prog fOf #[.int .i64 ((dateN n).1 : Int), .int .i64 1, .int .i64 1] W fun e w' => e = .returned (.tuple #[.int .i64 (a : Int), .bool true]) ∧ Below W.heap.size W w' := fun W hW => by
          have := CVc (c_of hD.y1 hD.y2 (mm := 1) (d := 1) (by omega) (by omega) (Nat.le_refl _) (by cases leapB ((dateN n).1 : Int) <;> decide)) (Varsb hw hW)
          have e : aheadN (dateN n).1 + 1 + daysM (leapB ((dateN n).1 : Int)) (1 - 1) = a := by rw [ha]; rfl
          rw [e] at this; exact this
        have hOf2 : ∀ W, Below w.heap.size w W → Calls Tryz.prog fOf #[.int .i64 ((dateN n).1 : Int), .int .i64 12, .int .i64 31] W fun e w' => e = .returned (.tuple #[.int .i64 (z : Int), .bool true]) ∧ Below W.heap.size W w' := fun W hW => by
          have := CVc (c_of hD.y1 hD.y2 (mm := 12) (d := 31) (by omega) (by omega) (by omega) (by cases leapB ((dateN n).1 : Int) <;> decide)) (Varsb hw hW)
          have e : aheadN (dateN n).1 + 31 + daysM (leapB ((dateN n).1 : Int)) (12 - 1) = z := by
            rw [hz]
            have : daysM (leapB ((dateN n).1 : Int)) (12 - 1) = (if leapB ((dateN n).1 : Int) then 366 else 365) - 31 := by cases leapB ((dateN n).1 : Int) <;> rfl
            rw [this]
            split <;> omega
          rw [e] at this; exact this
        clear ha hz
        go_wp2_with fail
        refine (hOf1 _ b2').mono ?_
        rintro e w3 ⟨rfl, b3⟩
        have b3' := b2'.trans (b3.mono b2'.size)
        have hB3 := hB2.keep (b3.block _ hB2.lt)
        go_wp2_with fail
        refine (hOf2 _ b3').mono ?_
        rintro e w4 ⟨rfl, b4⟩
        have b4' := b3'.trans (b4.mono b3'.size)
        have hB4 := hB3.keep (b4.block _ hB3.lt)
        have k0 := hB4.c0
        have k1 := hB4.c1
        have f0 := hB4.frozen 0
        have f1' := hB4.frozen 1
        go_wp2
        have e2 := (hB4.set0 (.int .i64 (a : Int))).set1 (.int .i64 (z : Int))
        have e3 := e2.c0
        have e4 := e2.c1
        refine bodyPost_ret (v := .agg #[.int .i64 (a : Int), .int .i64 (z : Int)]) (by simp [results, Tryz.results207, go_sem, e3, e4]) rfl ⟨?_, belowSet (belowSet b4' ⟨w.heap.size, 0, none⟩ _ (Nat.le_refl _)) ⟨w.heap.size, 1, none⟩ _ (Nat.le_refl _)⟩
        rw [hv.out.1, hv.out.2]
      · have hv : Hid (((perN f n).1 : Int) = (n : Int) ∧ ((perN f n).2 : Int) = (n : Int)) := by
          have e : perN f n = (n, n) := by
            unfold perN
            rw [if_neg f1, if_neg f2, if_neg f3]
          rw [e]
          exact hidZ ⟨rfl, rfl⟩
        have k0 := hB2.c0
        have k1 := hB2.c1
        have f0 := hB2.frozen 0
        have f1' := hB2.frozen 1
        go_wp2
        have e2 := (hB2.set0 (.int .i64 (n : Int))).set1 (.int .i64 (n : Int))
        have e3 := e2.c0
        have e4 := e2.c1
        refine bodyPost_ret (v := .agg #[.int .i64 (n : Int), .int .i64 (n : Int)]) (by simp [results, Tryz.results207, go_sem, e3, e4]) rfl ⟨?_, belowSet (belowSet b2' ⟨w.heap.size, 0, none⟩ _ (Nat.le_refl _)) ⟨w.heap.size, 1, none⟩ _ (Nat.le_refl _)⟩
        rw [hv.out.1, hv.out.2]
end Go.Proofs.YtjhnpcnamclfbaaGreatDoor

/-! Weekdays of a month, of a year. -/
namespace Go.Proofs.YtjhnpcnamclfbaaGreatDoor
open Go Go.Eng Go.RowKit

set_option maxRecDepth 100000 in
set_option maxHeartbeats 1000000 in
theorem nth_calls (x : Int × Int) (hx : -1000 ≤ x.1 ∧ x.1 ≤ 1000) {n a b : Nat} (h1 : 1 ≤ n) (h2 : n ≤ lastN) (ha : a ≤ n) (hb : n ≤ b) (hb2 : b ≤ lastN) (w : World) :
    Calls Tryz.prog 286 #[.agg #[.int .i64 x.1, .int .i64 x.2], .int .i64 (n : Int), .agg #[.int .i64 (a : Int), .int .i64 (b : Int)]] w fun e w' => e = .returned (.bool (nthN x n (a, b))) ∧ Below w.heap.size w w' := by
  obtain ⟨q, y⟩ := x
  obtain ⟨q1, q2⟩ := hx
  have q1 : -1000 ≤ q := q1
  have q2 : q ≤ 1000 := q2
  have h2' : n ≤ 3652059 := h2
  have hb2' : b ≤ 3652059 := hb2
  have tS := Tryz.underlying209; have aS := Tryz.isAgg209; have zS := Tryz.sizeOf209; have uS := run_underlying Tryz.underlying209
  have tN := Tryz.underlying190; have aN := Tryz.isAgg190; have zN := Tryz.sizeOf190; have uN := run_underlying Tryz.underlying190
  have b2 : Below w.heap.size w ((w.alloc (.cells #[.int .i64 q, .int .i64 y] 190)).alloc (.cells #[.int .i64 (a : Int), .int .i64 (b : Int)] 209)) := ((Below.refl _ w).alloc (Nat.le_refl _) _).alloc (by simp) _
  go_enter Tryz.func286, Tryz.ntmps286
  go_wp2_with fail
  go_quiet ((go_at_call 16; refine Calls.quiet_of_same (wday_calls h1 h2 _)))
  by_cases e1 : (wdN n : Int) = y
  · by_cases e2 : 0 < q
    · have hv : nthN (q, y) n (a, b) = decide ((((n - a) / 7 : Nat) : Int) = q - 1) := by
        unfold nthN
        rw [if_neg (by simpa using e1), if_pos e2]
      have HV := hidZ hv
      clear hv
      subst e1
      go_wp2
      refine bodyPost_ret (results_tmp rfl _ _ _) rfl ⟨?_, belowDrewN b2 _⟩
      rw [HV.out]
      show Ending.returned (.bool (((n : Int) - (a : Int)) / 7 == q - 1)) = _
      rw [show (((n - a) / 7 : Nat) : Int) = ((n : Int) - (a : Int)) / 7 by omega]
      rfl
    · by_cases e3 : q < 0
      · have hv : nthN (q, y) n (a, b) = decide ((((b - n) / 7 : Nat) : Int) = -q - 1) := by
          unfold nthN
          rw [if_neg (by simpa using e1), if_neg e2, if_pos e3]
        have HV := hidZ hv
        clear hv
        subst e1
        go_wp2
        refine bodyPost_ret (results_tmp rfl _ _ _) rfl ⟨?_, belowDrewN b2 _⟩
        rw [HV.out]
        show Ending.returned (.bool (((b : Int) - (n : Int)) / 7 == -q - 1)) = _
        rw [show (((b - n) / 7 : Nat) : Int) = ((b : Int) - (n : Int)) / 7 by omega]
        rfl
      · have hv : nthN (q, y) n (a, b) = true := by
          unfold nthN
          rw [if_neg (by simpa using e1), if_neg e2, if_neg e3]
        have HV := hidZ hv
        clear hv
        subst e1
        go_wp2
        exact bodyPost_ret (results_tmp rfl _ _ _) rfl ⟨by rw [HV.out]; rfl, belowDrewN b2 _⟩
  · have hv : nthN (q, y) n (a, b) = false := by
      unfold nthN
      rw [if_pos (by simpa using e1)]
    have HV := hidZ hv
    clear hv
    have e1b : ((wdN n : Int) != y) = true := by simpa using e1
    go_wp2
    exact bodyPost_ret (results_tmp rfl _ _ _) rfl ⟨by rw [HV.out]; rfl, belowDrewN b2 _⟩
end Go.Proofs.YtjhnpcnamclfbaaGreatDoor

/-! Do the weekdays let a day? -/
namespace Go.Proofs.YtjhnpcnamclfbaaGreatDoor
open Go Go.Eng Go.RowKit

def vZ : Value → Int
  | .int _ a => a
  | _ => 0
theorem lt_of_cellZ {w : World} {a : Addr} {v : Value} (h : w.cell? a = some v) : a.block < w.heap.size := by
  by_cases hn : a.block < w.heap.size
  · exact hn
  · have h0 : w.heap[a.block]? = none := Array.getElem?_eq_none (by omega)
    simp [World.cell?, h0] at h
theorem intsAt_below {W W' : World} {v : Value} {l : List Int} (h : IntsAt W v l) (hB : Below W.heap.size W W') : IntsAt W' v l := by
  rcases h with h | ⟨b, o, c, rfl, h⟩
  · exact .inl h
  · exact .inr ⟨b, o, c, rfl, fun j z hj => (hB.cell (p := ⟨b, o + j, none⟩) (lt_of_cellZ (h j z hj))).trans (h j z hj)⟩
theorem nthsAt_below {W W' : World} {v : Value} {l : List (Int × Int)} (h : NthsAt W v l) (hB : Below W.heap.size W W') : NthsAt W' v l := by
  rcases h with h | ⟨b, o, c, rfl, h⟩
  · exact .inl h
  · refine .inr ⟨b, o, c, rfl, fun j z hj => ?_⟩
    obtain ⟨h1, h2⟩ := h j z hj
    exact ⟨(hB.cell (p := ⟨b, _, none⟩) (lt_of_cellZ h1)).trans h1, (hB.cell (p := ⟨b, _, none⟩) (lt_of_cellZ h2)).trans h2⟩
theorem intsAt_form {W : World} {v : Value} {l : List Int} (h : IntsAt W v l) : ∃ a c, v = .slice a l.length c := by
  rcases h with ⟨a, c, rfl, rfl⟩ | ⟨b, o, c, rfl, _⟩
  · exact ⟨_, _, rfl⟩
  · exact ⟨_, _, rfl⟩
theorem nthsAt_form {W : World} {v : Value} {l : List (Int × Int)} (h : NthsAt W v l) : ∃ a c, v = .slice a l.length c := by
  rcases h with ⟨a, c, rfl, rfl⟩ | ⟨b, o, c, rfl, _⟩
  · exact ⟨_, _, rfl⟩
  · exact ⟨_, _, rfl⟩

set_option maxRecDepth 100000 in
set_option maxHeartbeats 1000000 in
/-- 'slices.IndexFunc' at weekdays. -/
theorem indexFunc_calls (v : Value) (l : List (Int × Int)) (g : FuncId) (lb : Array Value) (p : Int × Int → Bool) (w : World) (hl : l.length ≤ 1000) (hv : NthsAt w v l)
    (eg : ∀ args w, (callFunc g args).run Tryz.prog w = .ok (.enter g args) w)
    (hp : ∀ W, Below w.heap.size w W → ∀ x ∈ l, Calls Tryz.prog g (#[.agg #[.int .i64 x.1, .int .i64 x.2]] ++ lb) W fun e w' => e = .returned (.bool (p x)) ∧ Below W.heap.size W w') :
    Calls Tryz.prog 203 #[v, .func (.func g) #[] lb] w fun e w' => ∃ i : Int, e = .returned (.int .i64 i) ∧ (0 ≤ i ↔ l.any p = true) ∧ Below w.heap.size w w' := by
  have tN := Tryz.underlying190; have aN := Tryz.isAgg190; have zN := Tryz.sizeOf190; have uN := run_underlying Tryz.underlying190
  obtain ⟨va, vc, rfl⟩ := nthsAt_form hv
  go_enter Tryz.func203, Tryz.ntmps203
  go_wp2
  go_loopw [8] (fun i W => ∃ k : Nat, k ≤ l.length ∧ i = .int .i64 k ∧ Hid (∀ x ∈ l.take k, p x = false) ∧ Hid (Below w.heap.size w W)) (fun i _ => l.length - (vZ i).toNat)
  case atStart => exact ⟨0, Nat.zero_le _, rfl, hidZ (fun x hx => by simp at hx), hidZ (Below.refl _ _)⟩
  case round =>
    rename World => wq
    obtain ⟨k, hk, rfl, hN, hB⟩ := hrel
    by_cases hkn : k < l.length
    · obtain ⟨x, hx⟩ : ∃ x, l[k]? = some x := ⟨_, List.getElem?_eq_getElem hkn⟩
      obtain ⟨b, o, c0, c1, e0⟩ : ∃ b o, wq.cell? ⟨b, o + k * 2, none⟩ = some (.int .i64 x.1) ∧ wq.cell? ⟨b, o + k * 2 + 1, none⟩ = some (.int .i64 x.2) ∧ va = some ⟨b, o, none⟩ := by
        rcases nthsAt_below hv hB.out with ⟨a, c, _, e⟩ | ⟨b, o, c, e, h⟩
        · rw [e] at hx; simp at hx
        · obtain ⟨h1, h2⟩ := h k x hx
          exact ⟨b, o, h1, h2, by injection e⟩
      subst e0
      have k1 : (k : Int) < (l.length : Int) := by omega
      go_wp2_with fail
      refine (hp wq hB.out x (List.mem_of_getElem? hx)).mono ?_
      rintro e w5 ⟨rfl, b5⟩
      have b5' := hB.out.trans (b5.mono hB.out.size)
      have hany : Hid (p x = true → l.any p = true) := hidZ fun h => List.any_eq_true.2 ⟨x, List.mem_of_getElem? hx, h⟩
      have hno : Hid (p x = false → ∀ y ∈ l.take (k + 1), p y = false) := hidZ fun h y hy => by
        rw [List.take_add_one, hx] at hy
        rcases List.mem_append.1 hy with h' | h'
        · exact hN.out y h'
        · obtain rfl : y = x := by simpa using h'
          exact h
      generalize p x = px at hany hno
      cases px with
      | true =>
        go_wp2
        exact bodyPost_ret (results_tmp rfl _ _ _) rfl ⟨(k : Int), rfl, ⟨fun _ => hany.out (by trivial), fun _ => by omega⟩, b5'⟩
      | false =>
        go_wp2
        exact ⟨⟨k + 1, by omega, by go_num, hidZ (hno.out (by trivial)), hidZ b5'⟩, by simp [vZ]; omega⟩
    · have hke : k = l.length := by omega
      subst hke
      have hN := hN.out
      rw [List.take_length] at hN
      have hf : l.any p = false := by rw [List.any_eq_false]; exact fun x hx => by rw [hN x hx]; decide
      have HF := hidZ hf
      have hb := hB.out
      clear hN hf
      go_wp2
      exact bodyPost_ret (results_tmp rfl _ _ _) rfl ⟨-1, rfl, by rw [HF.out]; exact ⟨fun h => by omega, fun h => (by cases h)⟩, hb⟩
set_option maxRecDepth 100000 in
set_option maxHeartbeats 1000000 in
/-- 'slices.ContainsFunc' at weekdays. -/
theorem containsFunc_calls (v : Value) (l : List (Int × Int)) (g : FuncId) (lb : Array Value) (p : Int × Int → Bool) (w : World) (hl : l.length ≤ 1000) (hv : NthsAt w v l)
    (eg : ∀ args w, (callFunc g args).run Tryz.prog w = .ok (.enter g args) w)
    (hp : ∀ W, Below w.heap.size w W → ∀ x ∈ l, Calls Tryz.prog g (#[.agg #[.int .i64 x.1, .int .i64 x.2]] ++ lb) W fun e w' => e = .returned (.bool (p x)) ∧ Below W.heap.size W w') :
    Calls Tryz.prog 204 #[v, .func (.func g) #[] lb] w fun e w' => e = .returned (.bool (l.any p)) ∧ Below w.heap.size w w' := by
  go_enter Tryz.func204, Tryz.ntmps204
  go_wp2_with fail
  refine (indexFunc_calls v l g lb p w hl hv eg hp).mono ?_
  rintro e w5 ⟨i, rfl, hi, b5⟩
  have HI := hidZ hi
  clear hi
  by_cases h0 : 0 ≤ i
  · go_wp2
    exact bodyPost_ret (results_tmp rfl _ _ _) rfl ⟨by rw [HI.out.1 h0]; rfl, b5⟩
  · have hf : l.any p = false := by
      cases h : l.any p with
      | false => rfl
      | true => exact absurd (HI.out.2 h) h0
    have HF := hidZ hf
    clear hf
    go_wp2
    exact bodyPost_ret (results_tmp rfl _ _ _) rfl ⟨by rw [HF.out, ← decide_eq_false (p := 0 ≤ i) (by omega)]; rfl, b5⟩
end Go.Proofs.YtjhnpcnamclfbaaGreatDoor

/-! Do the weekdays let a day? -/
namespace Go.Proofs.YtjhnpcnamclfbaaGreatDoor
open Go Go.Eng Go.RowKit

theorem perN_ok (f : Int) {n : Nat} (h1 : 1 ≤ n) (h2 : n ≤ lastN) : (perN f n).1 ≤ n ∧ n ≤ (perN f n).2 ∧ (perN f n).2 ≤ lastN := by
  have hD := dateN_dated h1 h2
  have h2' : n ≤ 3652059 := h2
  have hwd : wdN n ≤ 6 := by unfold wdN; omega
  have hm := hD.month.2
  have hd1 := hD.d1
  have hd2 : (dateN n).2.2 ≤ monthN n := hD.d2
  have hlo := hD.low
  unfold perN
  split
  · exact ⟨by show n - wdN n ≤ n; omega, by show n ≤ min (n - wdN n + 6) 3652059; omega, by show min (n - wdN n + 6) 3652059 ≤ 3652059; omega⟩
  · split
    · have hm : n - (dateN n).2.2 + monthN n ≤ 3652059 := hm
      exact ⟨by show n + 1 - (dateN n).2.2 ≤ n; omega, by show n ≤ n - (dateN n).2.2 + monthN n; omega, hm⟩
    · split
      · have e := hD.e
        have h1 : daysM (leapB ((dateN n).1 : Int)) (dateN n).2.1 = daysM (leapB ((dateN n).1 : Int)) ((dateN n).2.1 - 1) + longN (leapB ((dateN n).1 : Int)) (dateN n).2.1 := by
          obtain ⟨q, hq⟩ : ∃ q, (dateN n).2.1 = q + 1 := ⟨(dateN n).2.1 - 1, by have := hD.m1; omega⟩
          rw [hq]; rfl
        have h4 := daysM_mono (leapB ((dateN n).1 : Int)) hD.m2
        rw [days12] at h4
        have h5 := ahead_step (dateN n).1 hD.y1
        have h6 := ahead_mono (y := (dateN n).1 + 1) (z := 10000) (by omega) (by have := hD.y2; omega)
        have e4 : aheadN 10000 = 3652059 := by decide
        have hd3 := hD.d2
        refine ⟨?_, ?_, ?_⟩
        · show aheadN (dateN n).1 + 1 ≤ n
          omega
        · show n ≤ aheadN (dateN n).1 + (if leapB ((dateN n).1 : Int) then 366 else 365)
          omega
        · show aheadN (dateN n).1 + (if leapB ((dateN n).1 : Int) then 366 else 365) ≤ 3652059
          omega
      · exact ⟨Nat.le_refl _, Nat.le_refl _, h2⟩
theorem cell_new (w : World) (cs : Array Value) (t : TypeId) (j : Nat) : (w.alloc (.cells cs t)).cell? ⟨w.heap.size, j, none⟩ = cs[j]? := by
  unfold World.cell?
  rw [World.alloc_heap_new w (.cells cs t)]
  rfl
theorem cell_keep {w : World} (o : Obj) {B j : Nat} {v : Value} (h : w.cell? ⟨B, j, none⟩ = some v) : (w.alloc o).cell? ⟨B, j, none⟩ = some v :=
  (World.cell?_of_block (Below.heap_alloc _ _ _ (lt_of_cellZ h))).trans h
theorem ruleV_below {W W' : World} {v : Value} {r : RuleD} (h : RuleV W v r) (hB : Below W.heap.size W W') : RuleV W' v r := by
  obtain ⟨sm, sd, sw, sp, e, h1, h2, h3, h4⟩ := h
  exact ⟨sm, sd, sw, sp, e, intsAt_below h1 hB, intsAt_below h2 hB, nthsAt_below h3 hB, intsAt_below h4 hB⟩

set_option maxRecDepth 100000 in
set_option maxHeartbeats 1000000 in
theorem weekday1_calls (x : Int × Int) (hx : -1000 ≤ x.1 ∧ x.1 ≤ 1000) {n a b : Nat} (h1 : 1 ≤ n) (h2 : n ≤ lastN) (ha : a ≤ n) (hb : n ≤ b) (hb2 : b ≤ lastN) (B1 B2 : Nat) (w : World)
    (k1 : w.cell? ⟨B1, 0, none⟩ = some (.int .i64 (n : Int))) (k2 : w.cell? ⟨B2, 0, none⟩ = some (.int .i64 (a : Int))) (k3 : w.cell? ⟨B2, 1, none⟩ = some (.int .i64 (b : Int))) :
    Calls Tryz.prog 285 (#[.agg #[.int .i64 x.1, .int .i64 x.2]] ++ #[.pointer (some ⟨B1, 0, none⟩), .pointer (some ⟨B2, 0, none⟩)]) w fun e w' => e = .returned (.bool (nthN x n (a, b))) ∧ Below w.heap.size w w' := by
  have tS := Tryz.underlying209; have aS := Tryz.isAgg209; have zS := Tryz.sizeOf209; have uS := run_underlying Tryz.underlying209
  have tN := Tryz.underlying190; have aN := Tryz.isAgg190; have zN := Tryz.sizeOf190; have uN := run_underlying Tryz.underlying190
  have b1 : Below w.heap.size w (w.alloc (.cells #[.int .i64 x.1, .int .i64 x.2] 190)) := (Below.refl _ w).alloc (Nat.le_refl _) _
  have hc : ∀ {B o v}, w.cell? ⟨B, o, none⟩ = some v → (w.alloc (.cells #[.int .i64 x.1, .int .i64 x.2] 190)).cell? ⟨B, o, none⟩ = some v := fun {B o v} h => (b1.cell (p := ⟨B, o, none⟩) (lt_of_cellZ h)).trans h
  have q1 := hc k1; have q2 := hc k2; have q3 := hc k3
  have hn : ∀ W, Calls Tryz.prog 286 #[.agg #[.int .i64 x.1, .int .i64 x.2], .int .i64 (n : Int), .agg #[.int .i64 (a : Int), .int .i64 (b : Int)]] W fun e w' => e = .returned (.bool (nthN x n (a, b))) ∧ Below W.heap.size W w' := fun W => nth_calls x hx h1 h2 ha hb hb2 W
  generalize nthN x n (a, b) = bn at hn ⊢
  go_enter Tryz.func285, Tryz.ntmps285
  go_wp2_with fail
  refine (hn _).mono ?_
  rintro e w5 ⟨rfl, b5⟩
  go_wp2
  exact bodyPost_ret (results_tmp rfl _ _ _) rfl ⟨rfl, b1.trans (b5.mono b1.size)⟩

set_option maxRecDepth 100000 in
set_option maxHeartbeats 1000000 in
theorem weekday_calls (r : RuleD) (hr : r.wdays.length ≤ 1000 ∧ ∀ x ∈ r.wdays, -1000 ≤ x.1 ∧ x.1 ≤ 1000) {n : Nat} (h1 : 1 ≤ n) (h2 : n ≤ lastN) (v : Value) {w : World} (hw : Vars gl w) (hv : RuleV w v r) (hlm : r.months.length ≤ 1000) :
    Calls Tryz.prog 260 #[v, .int .i64 (n : Int)] w fun e w' => e = .returned (.bool (weekdayN r n)) ∧ Below w.heap.size w w' := by
  obtain ⟨sm, sd, sw, sp, rfl, hm, hd, hwd, hsp⟩ := hv
  have tS := Tryz.underlying209; have aS := Tryz.isAgg209; have zS := Tryz.sizeOf209; have uS := run_underlying Tryz.underlying209
  have tR := Tryz.underlying124; have aR := Tryz.isAgg124; have zR := Tryz.sizeOf124; have uR := run_underlying Tryz.underlying124
  obtain ⟨am, cm, rfl⟩ := intsAt_form hm
  obtain ⟨aw, cw, rfl⟩ := nthsAt_form hwd
  obtain ⟨fm, iv, ct, ut, months, days, wds, pos⟩ := r
  obtain ⟨hr1, hr2⟩ := hr
  simp only at hm hd hwd hsp hlm hr1 hr2 ⊢
  have hws : Hid (NthsAt w (.slice aw wds.length cw) wds) := hidZ hwd
  have hr2 := hidZ hr2
  have hv0 : Hid (wds = [] → weekdayN ⟨fm, iv, ct, ut, months, days, wds, pos⟩ n = true) := hidZ fun h => by unfold weekdayN; simp [h]
  obtain ⟨ff, hff⟩ : ∃ ff : Int, ff = if fm = 3 ∧ months = [] then 3 else 2 := ⟨_, rfl⟩
  have hok := perN_ok ff h1 h2
  have hP : ∀ W, Below w.heap.size w W → Calls Tryz.prog 207 #[.int .i64 ff, .int .i64 (n : Int)] W fun e w' => e = .returned (.agg #[.int .i64 ((perN ff n).1 : Int), .int .i64 ((perN ff n).2 : Int)]) ∧ Below W.heap.size W w' := fun W hW => period_calls ff h1 h2 (Varsb hw hW)
  have hv1 : Hid (wds ≠ [] → weekdayN ⟨fm, iv, ct, ut, months, days, wds, pos⟩ n = wds.any fun x => nthN x n ((perN ff n).1, (perN ff n).2)) := hidZ fun h => by
    unfold weekdayN
    rw [hff]
    cases wds with
    | nil => exact absurd rfl h
    | cons a l => rfl
  have hf3 : Hid (fm = 3 → months = [] → ff = 3) := hidZ fun h h' => by rw [hff, if_pos ⟨h, h'⟩]
  have hf2 : Hid (fm ≠ 3 → ff = 2) := hidZ fun h => by rw [hff, if_neg fun h' => h h'.1]
  have hf2' : Hid (months ≠ [] → ff = 2) := hidZ fun h => by rw [hff, if_neg fun h' => h h'.2]
  clear hff
  generalize (perN ff n).1 = pa at hP hv1 hok
  generalize (perN ff n).2 = pb at hP hv1 hok
  obtain ⟨o1, o2, o3⟩ := hok
  generalize weekdayN ⟨fm, iv, ct, ut, months, days, wds, pos⟩ n = res at hv0 hv1 ⊢
  have b1 : Below w.heap.size w ((w.alloc (.cells #[.int .i64 fm, .int .i64 iv, .int .i64 ct, .int .i64 ut, .slice am months.length cm, sd, .slice aw wds.length cw, sp] 124)).alloc (.cells #[.int .i64 (n : Int)] 26)) := ((Below.refl _ w).alloc (Nat.le_refl _) _).alloc (by simp) _
  have q6 : Hid (((w.alloc (.cells #[.int .i64 fm, .int .i64 iv, .int .i64 ct, .int .i64 ut, .slice am months.length cm, sd, .slice aw wds.length cw, sp] 124)).alloc (.cells #[.int .i64 (n : Int)] 26)).cell? ⟨w.heap.size, 6, none⟩ = some (.slice aw wds.length cw)) := cell_keep _ (cell_new w _ _ 6)
  have qn : Hid (((w.alloc (.cells #[.int .i64 fm, .int .i64 iv, .int .i64 ct, .int .i64 ut, .slice am months.length cm, sd, .slice aw wds.length cw, sp] 124)).alloc (.cells #[.int .i64 (n : Int)] 26)).cell? ⟨w.heap.size + 1, 0, none⟩ = some (.int .i64 (n : Int))) := by
    have := cell_new (w.alloc (.cells #[.int .i64 fm, .int .i64 iv, .int .i64 ct, .int .i64 ut, .slice am months.length cm, sd, .slice aw wds.length cw, sp] 124)) #[.int .i64 (n : Int)] 26 0
    rw [World.size_alloc] at this
    exact this
  by_cases hne : wds = []
  · subst hne
    have := hv0.out rfl
    subst this
    clear hv0 hv1 hws hr2 hf3 hf2 hf2' hwd
    go_enter Tryz.func260, Tryz.ntmps260
    go_wp2
    exact bodyPost_ret (results_tmp rfl _ _ _) rfl ⟨rfl, b1⟩
  · have hl0 : wds.length ≠ 0 := fun h => hne (List.eq_nil_of_length_eq_zero h)
    have hl0' : ¬ ((wds.length : Int) = 0) := by omega
    have hv := hv1.out hne
    have HV := hidZ hv
    have key : ∀ {W : World}, Below w.heap.size w W → ∀ (B1 B2 : Nat), W.cell? ⟨B1, 0, none⟩ = some (.int .i64 (n : Int)) → W.cell? ⟨B2, 0, none⟩ = some (.int .i64 (pa : Int)) → W.cell? ⟨B2, 1, none⟩ = some (.int .i64 (pb : Int)) → Calls Tryz.prog 204 #[.slice aw wds.length cw, .func (.func 285) #[] #[.pointer (some ⟨B1, 0, none⟩), .pointer (some ⟨B2, 0, none⟩)]] W fun e w' => e = .returned (.bool (wds.any fun x => nthN x n (pa, pb))) ∧ Below W.heap.size W w' := fun {W} hB B1 B2 k1 k2 k3 =>
      containsFunc_calls _ wds _ _ (fun x => nthN x n (pa, pb)) W hr1 (nthsAt_below hws.out hB) (fun args w => rfl) fun W' hW' x hx => weekday1_calls x (hr2.out x hx) h1 h2 o1 o2 o3 B1 B2 W' ((hW'.cell (p := ⟨B1, 0, none⟩) (lt_of_cellZ k1)).trans k1) ((hW'.cell (p := ⟨B2, 0, none⟩) (lt_of_cellZ k2)).trans k2) ((hW'.cell (p := ⟨B2, 1, none⟩) (lt_of_cellZ k3)).trans k3)
    clear hv hv0 hv1 hwd hne
    have hl : fm = 3 ∧ months = [] ∨ fm = 3 ∧ months ≠ [] ∨ fm ≠ 3 := by
      by_cases h : fm = 3
      · by_cases h' : months = []
        · exact .inl ⟨h, h'⟩
        · exact .inr (.inl ⟨h, h'⟩)
      · exact .inr (.inr h)
    have fin : Hid (res = wds.any fun x => nthN x n (pa, pb)) := HV
    rcases hl with ⟨rfl, rfl⟩ | ⟨rfl, hm0⟩ | hm0
    · have hff := hf3.out rfl rfl
      subst hff
      clear hf3 hf2 hf2'
      go_enter Tryz.func260, Tryz.ntmps260
      go_wp2_with fail
      refine (hP _ b1).mono ?_
      rintro e w4 ⟨rfl, b4⟩
      have b4' := b1.trans (b4.mono b1.size)
      have r6 := (b4.cell (p := ⟨w.heap.size, 6, none⟩) (lt_of_cellZ q6.out)).trans q6.out
      have rn := (b4.cell (p := ⟨w.heap.size + 1, 0, none⟩) (lt_of_cellZ qn.out)).trans qn.out
      have r6' := cell_keep (.cells #[.int .i64 (pa : Int), .int .i64 (pb : Int)] 209) r6
      clear hP
      go_wp2_with fail
      have b5 := b4'.alloc b4'.size (.cells #[.int .i64 (pa : Int), .int .i64 (pb : Int)] 209)
      have bn : Below w4.heap.size w4 (w4.alloc (.cells #[.int .i64 (pa : Int), .int .i64 (pb : Int)] 209)) := (Below.refl _ w4).alloc (Nat.le_refl _) _
      have kb := Box2.new w4 209 (.int .i64 (pa : Int)) (.int .i64 (pb : Int))
      refine (key b5 (w.heap.size + 1) w4.heap.size ((bn.cell (p := ⟨w.heap.size + 1, 0, none⟩) (lt_of_cellZ rn)).trans rn) kb.c0 kb.c1).mono ?_
      rintro e w6 ⟨rfl, b6⟩
      rw [← fin.out]
      go_wp2
      exact bodyPost_ret (results_tmp rfl _ _ _) rfl ⟨rfl, b5.trans (b6.mono b5.size)⟩
    · have hff := hf2'.out hm0
      subst hff
      have hml : ¬ ((months.length : Int) = 0) := fun h => hm0 (List.eq_nil_of_length_eq_zero (by omega))
      clear hf3 hf2 hf2' hm0
      go_enter Tryz.func260, Tryz.ntmps260
      go_wp2_with fail
      refine (hP _ b1).mono ?_
      rintro e w4 ⟨rfl, b4⟩
      have b4' := b1.trans (b4.mono b1.size)
      have r6 := (b4.cell (p := ⟨w.heap.size, 6, none⟩) (lt_of_cellZ q6.out)).trans q6.out
      have rn := (b4.cell (p := ⟨w.heap.size + 1, 0, none⟩) (lt_of_cellZ qn.out)).trans qn.out
      have r6' := cell_keep (.cells #[.int .i64 (pa : Int), .int .i64 (pb : Int)] 209) r6
      clear hP
      go_wp2_with fail
      have b5 := b4'.alloc b4'.size (.cells #[.int .i64 (pa : Int), .int .i64 (pb : Int)] 209)
      have bn : Below w4.heap.size w4 (w4.alloc (.cells #[.int .i64 (pa : Int), .int .i64 (pb : Int)] 209)) := (Below.refl _ w4).alloc (Nat.le_refl _) _
      have kb := Box2.new w4 209 (.int .i64 (pa : Int)) (.int .i64 (pb : Int))
      refine (key b5 (w.heap.size + 1) w4.heap.size ((bn.cell (p := ⟨w.heap.size + 1, 0, none⟩) (lt_of_cellZ rn)).trans rn) kb.c0 kb.c1).mono ?_
      rintro e w6 ⟨rfl, b6⟩
      rw [← fin.out]
      go_wp2
      exact bodyPost_ret (results_tmp rfl _ _ _) rfl ⟨rfl, b5.trans (b6.mono b5.size)⟩
    · have hff := hf2.out hm0
      subst hff
      clear hf3 hf2 hf2'
      go_enter Tryz.func260, Tryz.ntmps260
      go_wp2_with fail
      refine (hP _ b1).mono ?_
      rintro e w4 ⟨rfl, b4⟩
      have b4' := b1.trans (b4.mono b1.size)
      have r6 := (b4.cell (p := ⟨w.heap.size, 6, none⟩) (lt_of_cellZ q6.out)).trans q6.out
      have rn := (b4.cell (p := ⟨w.heap.size + 1, 0, none⟩) (lt_of_cellZ qn.out)).trans qn.out
      have r6' := cell_keep (.cells #[.int .i64 (pa : Int), .int .i64 (pb : Int)] 209) r6
      clear hP
      go_wp2_with fail
      have b5 := b4'.alloc b4'.size (.cells #[.int .i64 (pa : Int), .int .i64 (pb : Int)] 209)
      have bn : Below w4.heap.size w4 (w4.alloc (.cells #[.int .i64 (pa : Int), .int .i64 (pb : Int)] 209)) := (Below.refl _ w4).alloc (Nat.le_refl _) _
      have kb := Box2.new w4 209 (.int .i64 (pa : Int)) (.int .i64 (pb : Int))
      refine (key b5 (w.heap.size + 1) w4.heap.size ((bn.cell (p := ⟨w.heap.size + 1, 0, none⟩) (lt_of_cellZ rn)).trans rn) kb.c0 kb.c1).mono ?_
      rintro e w6 ⟨rfl, b6⟩
      rw [← fin.out]
      go_wp2
      exact bodyPost_ret (results_tmp rfl _ _ _) rfl ⟨rfl, b5.trans (b6.mono b5.size)⟩
end Go.Proofs.YtjhnpcnamclfbaaGreatDoor

/-! The months' lengths, where they lie; civil.Long changes nothing. -/
namespace Go.Proofs.YtjhnpcnamclfbaaGreatDoor
open Go Go.Eng Go.RowKit

def mLenZ : List Int := [31, 28, 31, 30, 31, 30, 31, 31, 30, 31, 30, 31]
theorem vrs_ints {ρ : Rho} {σ : Nat → Value} : ∀ (l : List Int) (vs : List Value), VRs ρ σ (l.map (AV.int .i64)) vs → vs = l.map (Value.int .i64)
  | [], _, h => h
  | a :: l, _, ⟨v, r, e, hv, hr⟩ => by
    rw [e, show v = .int .i64 a from hv, vrs_ints l r hr]; rfl
theorem months_at {w : World} (hw : Vars gl w) {j : Nat} {z : Int} (hj : mLenZ[j]? = some z) : w.cell? ⟨0, j, none⟩ = some (.int .i64 z) := by
  obtain ⟨m, hm⟩ := hw
  obtain ⟨ρ, hR⟩ := hm (fun _ => .int .i64 m) rfl
  have hg : (stOf gl).get 0 = some (.cells (mLenZ.map (AV.int .i64)) 94 false) := by kernel_rfl
  rcases hR.live 0 _ hg with ⟨_, hb⟩ | ⟨L, ob, hL, hwb, hBO⟩
  · exact absurd (hR.virt 0 _ hb).2.2.2 (by decide)
  · obtain ⟨L', hL', hv⟩ := hR.vars 0 (by decide)
    obtain rfl : L = L' := by rw [hL] at hL'; injection hL'
    obtain ⟨h0, hs⟩ := hv (by decide)
    obtain ⟨c, t, fr, rfl, _, _, hVR, _, _, _⟩ := hBO
    have h2 := vrs_ints _ _ hVR
    rw [hs, List.drop_zero, List.length_map] at h2
    rw [h0] at hwb
    have h3 : c.toList[j]? = some (.int .i64 z) := by
      have hjl : j < mLenZ.length := (List.getElem?_eq_some_iff.1 hj).1
      have := congrArg (fun l => l[j]?) h2
      simp only [List.getElem?_take, List.getElem?_map, hj, if_pos hjl] at this
      exact this
    unfold World.cell?
    rw [hwb]
    simpa using h3
set_option maxRecDepth 100000 in
set_option maxHeartbeats 1000000 in
theorem leap_sameZ (y : Int) (h1 : 1 ≤ y) (h2 : y ≤ 9999) (w : World) : Calls Tryz.prog 58 #[.int .i64 y] w fun e w' => e = .returned (.bool (leapB y)) ∧ w' = w := by
  have hl : Hid (leapB y = (decide (y.tmod 4 = 0) && (!decide (y.tmod 100 = 0) || decide (y.tmod 400 = 0)))) := hidZ rfl
  rw [Int.tmod_eq_emod_of_nonneg (by omega), Int.tmod_eq_emod_of_nonneg (by omega), Int.tmod_eq_emod_of_nonneg (by omega)] at hl
  go_enter Tryz.func58, Tryz.ntmps58
  go_wp2_with fail
  all_goals (refine bodyPost_ret (results_tmp rfl _ _ _) rfl ⟨?_, rfl⟩; first | (show Ending.returned (.bool true) = _; rw [hl.out]; simp [*]; done) | (show Ending.returned (.bool false) = _; rw [hl.out]; simp [*]; done) | (show Ending.returned (.bool (y % 400 == 0)) = _; rw [hl.out]; by_cases h : y % 400 = 0 <;> simp [*]))
set_option maxRecDepth 100000 in
set_option maxHeartbeats 1000000 in
theorem long_same {n : Nat} (h1 : 1 ≤ n) (h2 : n ≤ lastN) {w : World} (hw : Vars gl w) : Calls Tryz.prog 33 #[.int .i64 ((dateN n).1 : Int), .int .i64 ((dateN n).2.1 : Int)] w fun e w' => e = .returned (.int .i64 (monthN n : Int)) ∧ w' = w := by
  have hD := dateN_dated h1 h2
  obtain ⟨y1, y2, m1, m2, _, _, _, _⟩ := hD
  have hL : ∀ W, Calls Tryz.prog 58 #[.int .i64 ((dateN n).1 : Int)] W fun e w' => e = .returned (.bool (leapB ((dateN n).1 : Int))) ∧ w' = W := fun W => leap_sameZ _ (by omega) (by omega) W
  have hM : Hid (monthN n = longN (leapB ((dateN n).1 : Int)) (dateN n).2.1) := hidZ rfl
  generalize monthN n = ll at hM ⊢
  generalize leapB ((dateN n).1 : Int) = lb at hM hL
  generalize (dateN n).1 = yy at *
  generalize (dateN n).2.1 = mm at *
  obtain ⟨z, hz, hzl⟩ : ∃ z : Int, mLenZ[mm - 1]? = some z ∧ (mm ≠ 2 ∨ lb = false → z = (ll : Int)) := by
    rw [hM.out]
    have : ∀ l : Bool, ∀ k, k < 12 → ∃ z : Int, mLenZ[k]? = some z ∧ (k + 1 ≠ 2 ∨ l = false → z = ((longN l (k + 1) : Nat) : Int)) := by
      intro l k hk
      obtain ⟨z, hz⟩ : ∃ z, mLenZ[k]? = some z := ⟨_, List.getElem?_eq_getElem hk⟩
      refine ⟨z, hz, fun h => ?_⟩
      have : k = 0 ∨ k = 1 ∨ k = 2 ∨ k = 3 ∨ k = 4 ∨ k = 5 ∨ k = 6 ∨ k = 7 ∨ k = 8 ∨ k = 9 ∨ k = 10 ∨ k = 11 := by omega
      rcases this with rfl | rfl | rfl | rfl | rfl | rfl | rfl | rfl | rfl | rfl | rfl | rfl <;> (injection hz with hz; subst hz; first | rfl | (rcases h with h | h; exact absurd rfl h; subst h; rfl))
    obtain ⟨k, rfl⟩ : ∃ k, mm = k + 1 := ⟨mm - 1, by omega⟩
    exact this lb k (by omega)
  have hc := months_at hw hz
  have e1 : ((mm : Int) - 1).toNat = mm - 1 := by omega
  have n1 : ¬ ((mm : Int) < 1) := by omega
  have n2 : ¬ (12 < (mm : Int)) := by omega
  by_cases h2m : mm = 2
  · cases lb with
    | true =>
      have : ll = 29 := by rw [hM.out, h2m]; rfl
      subst this
      subst h2m
      clear hM hzl hc hz
      go_enter Tryz.func33, Tryz.ntmps33
      go_wp2_with fail
      refine (hL _).mono ?_
      rintro e w' ⟨rfl, rfl⟩
      go_wp2
      exact bodyPost_ret (results_tmp rfl _ _ _) rfl ⟨rfl, rfl⟩
    | false =>
      have hzz := hzl (.inr rfl)
      subst hzz
      subst h2m
      clear hM hzl hz
      go_enter Tryz.func33, Tryz.ntmps33
      go_wp2_with fail
      refine (hL _).mono ?_
      rintro e w' ⟨rfl, rfl⟩
      go_wp2
      exact bodyPost_ret (results_tmp rfl _ _ _) rfl ⟨rfl, rfl⟩
  · have hzz := hzl (.inl h2m)
    subst hzz
    have hmn : ((mm : Int) == 2) = false := by simp only [beq_eq_false_iff_ne]; omega
    obtain ⟨k, rfl⟩ : ∃ k, mm = k + 1 := ⟨mm - 1, by omega⟩
    rw [Nat.add_sub_cancel] at hc
    clear hM hzl hz hL
    go_enter Tryz.func33, Tryz.ntmps33
    go_wp2
    exact bodyPost_ret (results_tmp rfl _ _ _) rfl ⟨rfl, rfl⟩
end Go.Proofs.YtjhnpcnamclfbaaGreatDoor

/-! Do the days of the month let a day? -/
namespace Go.Proofs.YtjhnpcnamclfbaaGreatDoor
open Go Go.Eng Go.RowKit

/-- 'slices.Contains' at numbers. -/
theorem containsZ {w : World} {v : Value} {l : List Int} (h : IntsAt w v l) (hl : l.length ≤ 1000) (x : Int) :
    Calls Tryz.prog 209 #[v, .int .i64 x] w fun e w' => e = .returned (.bool (l.contains x)) ∧ w' = w := by
  rcases h with ⟨a, c, rfl, rfl⟩ | ⟨b, o, c, rfl, hc⟩
  · refine (Tryz.slices_Contains_int_empty a c x w).mono ?_
    rintro e w' ⟨rfl, rfl⟩
    exact ⟨rfl, rfl⟩
  · refine (Tryz.slices_Contains_int b o l.length c l x w (Nat.le_refl _) (by omega) (fun j hj => ?_)).mono ?_
    · refine hc j _ ?_
      rw [List.getElem?_eq_getElem hj]
      simp [List.getD, List.getElem?_eq_getElem hj]
    · rintro e w' ⟨rfl, rfl⟩
      refine ⟨?_, rfl⟩
      rw [List.take_length]
      try rfl
set_option maxRecDepth 100000 in
set_option maxHeartbeats 1000000 in
theorem monthday_calls (r : RuleD) (hrd : r.days.length ≤ 1000) {n : Nat} (h1 : 1 ≤ n) (h2 : n ≤ lastN) (v : Value) {w : World} (hw : Vars gl w) (hv : RuleV w v r) :
    Calls Tryz.prog 259 #[v, .int .i64 ((dateN n).1 : Int), .int .i64 ((dateN n).2.1 : Int), .int .i64 ((dateN n).2.2 : Int)] w fun e w' => e = .returned (.bool (monthdayN r n)) ∧ Below w.heap.size w w' := by
  obtain ⟨sm, sd, sw, sp, rfl, hm, hd, hwd, hsp⟩ := hv
  have tR := Tryz.underlying124; have aR := Tryz.isAgg124; have zR := Tryz.sizeOf124; have uR := run_underlying Tryz.underlying124
  have hD := dateN_dated h1 h2
  have d31 := hD.d31
  have hmN : monthN n ≤ 31 := by unfold monthN longN; split <;> first | omega | (cases leapB ((dateN n).1 : Int) <;> decide)
  obtain ⟨ad, cd, rfl⟩ := intsAt_form hd
  obtain ⟨fm, iv, ct, ut, months, days, wds, pos⟩ := r
  simp only at hm hd hwd hsp hrd ⊢
  have b1 : Below w.heap.size w (w.alloc (.cells #[.int .i64 fm, .int .i64 iv, .int .i64 ct, .int .i64 ut, sm, .slice ad days.length cd, sw, sp] 124)) := (Below.refl _ w).alloc (Nat.le_refl _) _
  have q5 : (w.alloc (.cells #[.int .i64 fm, .int .i64 iv, .int .i64 ct, .int .i64 ut, sm, .slice ad days.length cd, sw, sp] 124)).cell? ⟨w.heap.size, 5, none⟩ = some (.slice ad days.length cd) := cell_new w _ _ 5
  have hC : ∀ (m : Nat) x, Calls Tryz.prog 209 #[.slice ad days.length cd, .int .i64 x] ((w.alloc (.cells #[.int .i64 fm, .int .i64 iv, .int .i64 ct, .int .i64 ut, sm, .slice ad days.length cd, sw, sp] 124)).drewN m) fun e w' => e = .returned (.bool (days.contains x)) ∧ w' = (w.alloc (.cells #[.int .i64 fm, .int .i64 iv, .int .i64 ct, .int .i64 ut, sm, .slice ad days.length cd, sw, sp] 124)).drewN m := fun m x => containsZ (intsAt_below hd (belowDrewN b1 m)) hrd x
  have hL : ∀ m : Nat, Calls Tryz.prog 33 #[.int .i64 ((dateN n).1 : Int), .int .i64 ((dateN n).2.1 : Int)] ((w.alloc (.cells #[.int .i64 fm, .int .i64 iv, .int .i64 ct, .int .i64 ut, sm, .slice ad days.length cd, sw, sp] 124)).drewN m) fun e w' => e = .returned (.int .i64 (monthN n : Int)) ∧ w' = (w.alloc (.cells #[.int .i64 fm, .int .i64 iv, .int .i64 ct, .int .i64 ut, sm, .slice ad days.length cd, sw, sp] 124)).drewN m := fun m => long_same h1 h2 (Varsb hw (belowDrewN b1 m))
  have hv0 : Hid (days = [] → monthdayN ⟨fm, iv, ct, ut, months, days, wds, pos⟩ n = true) := hidZ fun h => by unfold monthdayN; simp [h]
  have hv1 : Hid (days ≠ [] → monthdayN ⟨fm, iv, ct, ut, months, days, wds, pos⟩ n = (days.contains ((dateN n).2.2 : Int) || days.contains (((dateN n).2.2 : Int) - monthN n - 1))) := hidZ fun h => by
    unfold monthdayN
    cases days with
    | nil => exact absurd rfl h
    | cons a l => rfl
  clear hD
  generalize (dateN n).1 = yy at *
  generalize (dateN n).2.1 = mm at *
  generalize (dateN n).2.2 = dd at *
  generalize monthN n = ll at *
  generalize monthdayN ⟨fm, iv, ct, ut, months, days, wds, pos⟩ n = res at hv0 hv1 ⊢
  by_cases hne : days = []
  · subst hne
    have := hv0.out rfl
    subst this
    clear hv0 hv1 hd hC hL
    go_enter Tryz.func259, Tryz.ntmps259
    go_wp2_with fail
    go_quiet (fail)
    go_wp2
    exact bodyPost_ret (results_tmp rfl _ _ _) rfl ⟨rfl, belowDrewN b1 _⟩
  · have hl0' : ((days.length : Int) == 0) = false := by
      have : days.length ≠ 0 := fun h => hne (List.eq_nil_of_length_eq_zero h)
      simp only [beq_eq_false_iff_ne]
      omega
    have HV := hidZ (hv1.out hne)
    have hC1 := fun m => hC m (dd : Int)
    have hC2 := fun m => hC m ((dd : Int) - (ll : Int) - 1)
    generalize days.contains (dd : Int) = c1 at hC1 HV
    generalize days.contains ((dd : Int) - (ll : Int) - 1) = c2 at hC2 HV
    clear hv0 hv1 hne hd hC
    go_enter Tryz.func259, Tryz.ntmps259
    go_wp2_with fail
    cases c1 with
    | true =>
      go_quiet ((go_at_call 209; refine Calls.quiet_of_same (hC1 _)))
      go_wp2
      exact bodyPost_ret (results_tmp rfl _ _ _) rfl ⟨by rw [HV.out]; rfl, belowDrewN b1 _⟩
    | false =>
      go_quiet (first
        | (go_at_call 33; refine Calls.quiet_of_same (hL _))
        | (go_at_call 209; refine Calls.quiet_of_same (hC2 _))
        | (go_at_call 209; refine Calls.quiet_of_same (hC1 _)))
      go_wp2
      exact bodyPost_ret (results_tmp rfl _ _ _) rfl ⟨by rw [HV.out]; rfl, belowDrewN b1 _⟩
end Go.Proofs.YtjhnpcnamclfbaaGreatDoor
