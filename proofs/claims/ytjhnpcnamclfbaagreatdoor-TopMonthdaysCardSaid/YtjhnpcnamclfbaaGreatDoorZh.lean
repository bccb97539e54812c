/- Do the lists let a day? No condition. -/
import Derived.Test.YtjhnpcnamclfbaaGreatDoorZf
import Derived.RegionTactic
import Derived.Deep.RegionWith
namespace Go.Proofs.YtjhnpcnamclfbaaGreatDoor
open Go Go.Eng Go.RowKit

structure RuleOk (r : RuleD) : Prop where
  months : r.months.length ≤ 1000
  days : r.days.length ≤ 1000
  wdays : r.wdays.length ≤ 1000
  nths : ∀ x ∈ r.wdays, -1000 ≤ x.1 ∧ x.1 ≤ 1000
  pos : r.pos.length ≤ 1000
set_option maxRecDepth 100000 in
set_option maxHeartbeats 4000000 in
theorem lets_calls (r : RuleD) (hr : RuleOk r) {s n : Nat} (s1 : 1 ≤ s) (s2 : s ≤ lastN) (h1 : 1 ≤ n) (h2 : n ≤ lastN) (v : Value) {w : World} (hw : Vars gl w) (hv : RuleV w v r) :
    Calls Tryz.prog 208 #[v, .int .i64 (s : Int), .int .i64 (n : Int)] w fun e w' => e = .returned (.bool (letsN r s n)) ∧ Below w.heap.size w w' := by
  have tR := Tryz.underlying124; have aR := Tryz.isAgg124; have zR := Tryz.sizeOf124; have uR := run_underlying Tryz.underlying124
  have hM : ∀ W, Below w.heap.size w W → Calls Tryz.prog 259 #[v, .int .i64 ((dateN n).1 : Int), .int .i64 ((dateN n).2.1 : Int), .int .i64 ((dateN n).2.2 : Int)] W fun e w' => e = .returned (.bool (monthdayN r n)) ∧ Below W.heap.size W w' := fun W hW => monthday_calls r hr.days h1 h2 v (Varsb hw hW) (ruleV_below hv hW)
  have hK : ∀ W, Below w.heap.size w W → Calls Tryz.prog 260 #[v, .int .i64 (n : Int)] W fun e w' => e = .returned (.bool (weekdayN r n)) ∧ Below W.heap.size W w' := fun W hW => weekday_calls r ⟨hr.wdays, hr.nths⟩ h1 h2 v (Varsb hw hW) (ruleV_below hv hW) hr.months
  have hDn := fun W (hW : Below w.heap.size w W) => date_calls h1 h2 (Varsb hw hW)
  have hDs := fun W (hW : Below w.heap.size w W) => date_calls s1 s2 (Varsb hw hW)
  have hWn := wday_calls h1 h2
  have hWs := wday_calls s1 s2
  obtain ⟨sm, sd, sw, sp, rfl, hm, hd, hwd, hsp⟩ := hv
  obtain ⟨am, cm, rfl⟩ := intsAt_form hm
  obtain ⟨ad, cd, rfl⟩ := intsAt_form hd
  obtain ⟨aw, cw, rfl⟩ := nthsAt_form hwd
  have hlm := hr.months
  have hlv : Hid (letsN r s n = (if (!r.months.isEmpty && !r.months.contains ((dateN n).2.1 : Int)) || !monthdayN r n || !weekdayN r n then false
    else if decide (r.freq = 0) || !r.wdays.isEmpty || !r.days.isEmpty then true
    else if r.freq = 1 then decide (wdN n = wdN s)
    else decide ((dateN n).2.2 = (dateN s).2.2) && (decide (r.freq = 2) || !r.months.isEmpty || decide ((dateN n).2.1 = (dateN s).2.1)))) := hidZ rfl
  clear hr
  obtain ⟨fm, iv, ct, ut, months, days, wds, pos⟩ := r
  simp only at hm hd hwd hsp hlm hlv hM hK ⊢
  have hC : ∀ W, Below w.heap.size w W → Calls Tryz.prog 209 #[.slice am months.length cm, .int .i64 ((dateN n).2.1 : Int)] W fun e w' => e = .returned (.bool (months.contains ((dateN n).2.1 : Int))) ∧ w' = W := fun W hW => containsZ (intsAt_below hm hW) hlm _
  have b0 : Below w.heap.size w (w.alloc (.cells #[.int .i64 fm, .int .i64 iv, .int .i64 ct, .int .i64 ut, .slice am months.length cm, .slice ad days.length cd, .slice aw wds.length cw, sp] 124)) := (Below.refl _ w).alloc (Nat.le_refl _) _
  have k0 : ∀ W, Below (w.heap.size + 1) (w.alloc (.cells #[.int .i64 fm, .int .i64 iv, .int .i64 ct, .int .i64 ut, .slice am months.length cm, .slice ad days.length cd, .slice aw wds.length cw, sp] 124)) W → W.heap[w.heap.size]? = some (.cells #[.int .i64 fm, .int .i64 iv, .int .i64 ct, .int .i64 ut, .slice am months.length cm, .slice ad days.length cd, .slice aw wds.length cw, sp] 124) := fun W hW => (hW.block _ (by omega)).trans (World.alloc_heap_new w _)
  have cellsAt : ∀ {W : World}, W.heap[w.heap.size]? = some (.cells #[.int .i64 fm, .int .i64 iv, .int .i64 ct, .int .i64 ut, .slice am months.length cm, .slice ad days.length cd, .slice aw wds.length cw, sp] 124) → ∀ j u, (#[.int .i64 fm, .int .i64 iv, .int .i64 ct, .int .i64 ut, .slice am months.length cm, .slice ad days.length cd, .slice aw wds.length cw, sp] : Array Value)[j]? = some u → W.cell? ⟨w.heap.size, j, none⟩ = some u := fun {W} h j u hj => by
    unfold World.cell?
    rw [h]
    exact hj
  generalize months.contains ((dateN n).2.1 : Int) = mc at hC hlv
  generalize monthdayN ⟨fm, iv, ct, ut, months, days, wds, pos⟩ n = md at hM hlv
  generalize weekdayN ⟨fm, iv, ct, ut, months, days, wds, pos⟩ n = wd at hK hlv
  generalize letsN ⟨fm, iv, ct, ut, months, days, wds, pos⟩ s n = res at hlv ⊢
  go_enter Tryz.func208, Tryz.ntmps208
  go_wp2_with fail
  refine (hDn _ b0).mono ?_
  rintro e w1 ⟨rfl, b1⟩
  have b1' := b0.trans (b1.mono b0.size)
  go_wp2_with fail
  refine (hDs _ b1').mono ?_
  rintro e w2 ⟨rfl, b2⟩
  have b2' := b1'.trans (b2.mono b1'.size)
  have K2 := k0 w2 ((b1.mono (by simp)).trans (b2.mono (by have := b1.size; simp at this; omega)))
  have q0 := cellsAt K2 0 _ rfl
  have q1 := cellsAt K2 1 _ rfl
  have q2 := cellsAt K2 2 _ rfl
  have q3 := cellsAt K2 3 _ rfl
  have q4 := cellsAt K2 4 _ rfl
  have q5 := cellsAt K2 5 _ rfl
  have q6 := cellsAt K2 6 _ rfl
  have q7 := cellsAt K2 7 _ rfl
  clear hDn hDs k0
  by_cases hE : months = []
  · subst hE
    have hmm : Hid ((!([] : List Int).isEmpty && !mc) = false) := hidZ rfl
    go_wp2_with fail
    refine (hM _ b2').mono ?_
    rintro e w3 ⟨rfl, b3⟩
    have b3' := b2'.trans (b3.mono b2'.size)
    have K3 := (b3.block _ (lt_of_cellZ q0)).trans K2
    have q0 := cellsAt K3 0 _ rfl
    have q1 := cellsAt K3 1 _ rfl
    have q2 := cellsAt K3 2 _ rfl
    have q3 := cellsAt K3 3 _ rfl
    have q4 := cellsAt K3 4 _ rfl
    have q5 := cellsAt K3 5 _ rfl
    have q6 := cellsAt K3 6 _ rfl
    have q7 := cellsAt K3 7 _ rfl
    cases md with
    | false =>
      have HV : Hid (res = false) := hidZ (by rw [hlv.out]; simp)
      clear hlv hK
      go_wp2
      exact bodyPost_ret (results_tmp rfl _ _ _) rfl ⟨by rw [HV.out]; rfl, b3'⟩
    | true =>
      clear hM
      go_wp2_with fail
      refine (hK _ b3').mono ?_
      rintro e w4 ⟨rfl, b4⟩
      have b4' := b3'.trans (b4.mono b3'.size)
      have K4 := (b4.block _ (lt_of_cellZ q0)).trans K3
      have q0 := cellsAt K4 0 _ rfl
      have q4 := cellsAt K4 4 _ rfl
      have q5 := cellsAt K4 5 _ rfl
      have q6 := cellsAt K4 6 _ rfl
      cases wd with
      | false =>
        have HV : Hid (res = false) := hidZ (by rw [hlv.out]; simp)
        clear hlv hK
        go_wp2
        exact bodyPost_ret (results_tmp rfl _ _ _) rfl ⟨by rw [HV.out]; rfl, b4'⟩
      | true =>
        have hlv2 : Hid (res = (if decide (fm = 0) || !wds.isEmpty || !days.isEmpty then true
          else if fm = 1 then decide (wdN n = wdN s)
          else decide ((dateN n).2.2 = (dateN s).2.2) && (decide (fm = 2) || !([] : List Int).isEmpty || decide ((dateN n).2.1 = (dateN s).2.1)))) := hidZ (by rw [hlv.out, hmm.out]; rfl)
        clear hlv hK hmm hC cellsAt K2 K3 K4
        generalize (dateN n).2.2 = dn at hlv2 ⊢
        generalize (dateN s).2.2 = ds at hlv2 ⊢
        generalize (dateN n).2.1 = mn at hlv2 ⊢
        generalize (dateN s).2.1 = ms at hlv2 ⊢
        by_cases hf0 : fm = 0
        · subst hf0
          have HV : Hid (res = true) := hidZ (by rw [hlv2.out]; rfl)
          clear hlv2
          go_wp2
          all_goals exact bodyPost_ret (results_tmp rfl _ _ _) rfl ⟨by rw [HV.out]; rfl, b4'⟩
        · have e0 : (fm == 0) = false := by simpa using hf0
          by_cases hw0 : wds = []
          · subst hw0
            by_cases hd0 : days = []
            · subst hd0
              by_cases hf1 : fm = 1
              · subst hf1
                have HV : Hid (res = decide (wdN n = wdN s)) := hidZ (by rw [hlv2.out]; rfl)
                clear hlv2
                go_wp2_with fail
                refine (hWn _).mono ?_
                rintro e w5 ⟨rfl, rfl⟩
                go_wp2_with fail
                refine (hWs _).mono ?_
                rintro e w5 ⟨rfl, rfl⟩
                generalize wdN n = a at HV ⊢
                generalize wdN s = b at HV ⊢
                by_cases hab : a = b
                · subst hab
                  go_wp2
                  all_goals exact bodyPost_ret (results_tmp rfl _ _ _) rfl ⟨by rw [HV.out]; rfl, b4'⟩
                · have e3 : ((a : Int) == (b : Int)) = false := by simp only [beq_eq_false_iff_ne]; omega
                  go_wp2
                  all_goals exact bodyPost_ret (results_tmp rfl _ _ _) rfl ⟨by rw [HV.out, decide_eq_false hab]; first | rfl | (rw [← e3]; rfl), b4'⟩
              · have e1 : (fm == 1) = false := by simpa using hf1
                have HV : Hid (res = (decide (dn = ds) && (decide (fm = 2) || !([] : List Int).isEmpty || decide (mn = ms)))) := hidZ (by rw [hlv2.out, decide_eq_false hf0, if_neg hf1]; rfl)
                clear hlv2 hf0 hf1
                by_cases hdd : dn = ds
                · subst hdd
                  by_cases hf2 : fm = 2
                  · subst hf2
                    have HV2 : Hid (res = true) := hidZ (by rw [HV.out]; simp)
                    clear HV
                    go_wp2
                    all_goals exact bodyPost_ret (results_tmp rfl _ _ _) rfl ⟨by rw [HV2.out]; rfl, b4'⟩
                  · have e2 : (fm == 2) = false := by simpa using hf2
                    by_cases hmm' : mn = ms
                    · subst hmm'
                      have HV2 : Hid (res = true) := hidZ (by rw [HV.out]; simp)
                      clear HV
                      go_wp2
                      all_goals exact bodyPost_ret (results_tmp rfl _ _ _) rfl ⟨by rw [HV2.out]; rfl, b4'⟩
                    · have e3 : ((mn : Int) == (ms : Int)) = false := by simp only [beq_eq_false_iff_ne]; omega
                      have HV2 : Hid (res = false) := hidZ (by rw [HV.out, decide_eq_false hf2, decide_eq_false hmm']; simp)
                      clear HV
                      go_wp2
                      all_goals exact bodyPost_ret (results_tmp rfl _ _ _) rfl ⟨by rw [HV2.out]; first | rfl | (rw [← e3]; rfl), b4'⟩
                · have e2 : ((dn : Int) == (ds : Int)) = false := by simp only [beq_eq_false_iff_ne]; omega
                  have HV2 : Hid (res = false) := hidZ (by rw [HV.out, decide_eq_false hdd]; rfl)
                  clear HV hdd
                  go_wp2
                  all_goals exact bodyPost_ret (results_tmp rfl _ _ _) rfl ⟨by rw [HV2.out]; rfl, b4'⟩
            · have hdl : 0 < (days.length : Int) := by
                have : days.length ≠ 0 := fun h => hd0 (List.eq_nil_of_length_eq_zero h)
                omega
              have HV : Hid (res = true) := hidZ (by rw [hlv2.out]; cases days with
                | nil => exact absurd rfl hd0
                | cons a l => simp)
              clear hlv2 hf0
              go_wp2
              all_goals exact bodyPost_ret (results_tmp rfl _ _ _) rfl ⟨by rw [HV.out]; rfl, b4'⟩
          · have hwl : 0 < (wds.length : Int) := by
              have : wds.length ≠ 0 := fun h => hw0 (List.eq_nil_of_length_eq_zero h)
              omega
            have HV : Hid (res = true) := hidZ (by rw [hlv2.out]; cases wds with
              | nil => exact absurd rfl hw0
              | cons a l => simp)
            clear hlv2 hf0
            go_wp2
            all_goals exact bodyPost_ret (results_tmp rfl _ _ _) rfl ⟨by rw [HV.out]; rfl, b4'⟩
  · have hml : 0 < (months.length : Int) := by
      have : months.length ≠ 0 := fun h => hE (List.eq_nil_of_length_eq_zero h)
      omega
    have hme : Hid (months.isEmpty = false) := hidZ (by cases months with
      | nil => exact absurd rfl hE
      | cons a l => rfl)
    clear hE
    cases mc with
    | false =>
      have HV : Hid (res = false) := hidZ (by rw [hlv.out, hme.out]; rfl)
      clear hlv hM hK
      go_wp2_with fail
      refine (hC _ b2').mono ?_
      rintro e w6 ⟨rfl, rfl⟩
      go_wp2
      exact bodyPost_ret (results_tmp rfl _ _ _) rfl ⟨by rw [HV.out]; rfl, b2'⟩
    | true =>
    have hmm : Hid ((!months.isEmpty && !true) = false) := hidZ (by rw [hme.out]; rfl)
    go_wp2_with fail
    refine (hC _ b2').mono ?_
    rintro e w6 ⟨rfl, rfl⟩
    go_wp2_with fail
    refine (hM _ b2').mono ?_
    rintro e w3 ⟨rfl, b3⟩
    have b3' := b2'.trans (b3.mono b2'.size)
    have K3 := (b3.block _ (lt_of_cellZ q0)).trans K2
    have q0 := cellsAt K3 0 _ rfl
    have q1 := cellsAt K3 1 _ rfl
    have q2 := cellsAt K3 2 _ rfl
    have q3 := cellsAt K3 3 _ rfl
    have q4 := cellsAt K3 4 _ rfl
    have q5 := cellsAt K3 5 _ rfl
    have q6 := cellsAt K3 6 _ rfl
    have q7 := cellsAt K3 7 _ rfl
    cases md with
    | false =>
      have HV : Hid (res = false) := hidZ (by rw [hlv.out]; simp)
      clear hlv hK
      go_wp2
      exact bodyPost_ret (results_tmp rfl _ _ _) rfl ⟨by rw [HV.out]; rfl, b3'⟩
    | true =>
      clear hM
      go_wp2_with fail
      refine (hK _ b3').mono ?_
      rintro e w4 ⟨rfl, b4⟩
      have b4' := b3'.trans (b4.mono b3'.size)
      have K4 := (b4.block _ (lt_of_cellZ q0)).trans K3
      have q0 := cellsAt K4 0 _ rfl
      have q4 := cellsAt K4 4 _ rfl
      have q5 := cellsAt K4 5 _ rfl
      have q6 := cellsAt K4 6 _ rfl
      cases wd with
      | false =>
        have HV : Hid (res = false) := hidZ (by rw [hlv.out]; simp)
        clear hlv hK
        go_wp2
        exact bodyPost_ret (results_tmp rfl _ _ _) rfl ⟨by rw [HV.out]; rfl, b4'⟩
      | true =>
        have hlv2 : Hid (res = (if decide (fm = 0) || !wds.isEmpty || !days.isEmpty then true
          else if fm = 1 then decide (wdN n = wdN s)
          else decide ((dateN n).2.2 = (dateN s).2.2) && (decide (fm = 2) || !months.isEmpty || decide ((dateN n).2.1 = (dateN s).2.1)))) := hidZ (by rw [hlv.out, hmm.out]; rfl)
        clear hlv hK hmm hC cellsAt K2 K3 K4
        generalize (dateN n).2.2 = dn at hlv2 ⊢
        generalize (dateN s).2.2 = ds at hlv2 ⊢
        generalize (dateN n).2.1 = mn at hlv2 ⊢
        generalize (dateN s).2.1 = ms at hlv2 ⊢
        by_cases hf0 : fm = 0
        · subst hf0
          have HV : Hid (res = true) := hidZ (by rw [hlv2.out]; rfl)
          clear hlv2
          go_wp2
          all_goals exact bodyPost_ret (results_tmp rfl _ _ _) rfl ⟨by rw [HV.out]; rfl, b4'⟩
        · have e0 : (fm == 0) = false := by simpa using hf0
          by_cases hw0 : wds = []
          · subst hw0
            by_cases hd0 : days = []
            · subst hd0
              by_cases hf1 : fm = 1
              · subst hf1
                have HV : Hid (res = decide (wdN n = wdN s)) := hidZ (by rw [hlv2.out]; rfl)
                clear hlv2
                go_wp2_with fail
                refine (hWn _).mono ?_
                rintro e w5 ⟨rfl, rfl⟩
                go_wp2_with fail
                refine (hWs _).mono ?_
                rintro e w5 ⟨rfl, rfl⟩
                generalize wdN n = a at HV ⊢
                generalize wdN s = b at HV ⊢
                by_cases hab : a = b
                · subst hab
                  go_wp2
                  all_goals exact bodyPost_ret (results_tmp rfl _ _ _) rfl ⟨by rw [HV.out]; rfl, b4'⟩
                · have e3 : ((a : Int) == (b : Int)) = false := by simp only [beq_eq_false_iff_ne]; omega
                  go_wp2
                  all_goals exact bodyPost_ret (results_tmp rfl _ _ _) rfl ⟨by rw [HV.out, decide_eq_false hab]; first | rfl | (rw [← e3]; rfl), b4'⟩
              · have e1 : (fm == 1) = false := by simpa using hf1
                have HV : Hid (res = (decide (dn = ds) && (decide (fm = 2) || !months.isEmpty || decide (mn = ms)))) := hidZ (by rw [hlv2.out, decide_eq_false hf0, if_neg hf1]; rfl)
                clear hlv2 hf0 hf1
                by_cases hdd : dn = ds
                · subst hdd
                  by_cases hf2 : fm = 2
                  · subst hf2
                    have HV2 : Hid (res = true) := hidZ (by rw [HV.out]; simp)
                    clear HV
                    go_wp2
                    all_goals exact bodyPost_ret (results_tmp rfl _ _ _) rfl ⟨by rw [HV2.out]; rfl, b4'⟩
                  · have e2 : (fm == 2) = false := by simpa using hf2
                    by_cases hmm' : mn = ms
                    · subst hmm'
                      have HV2 : Hid (res = true) := hidZ (by rw [HV.out]; simp)
                      clear HV
                      go_wp2
                      all_goals exact bodyPost_ret (results_tmp rfl _ _ _) rfl ⟨by rw [HV2.out]; rfl, b4'⟩
                    · have e3 : ((mn : Int) == (ms : Int)) = false := by simp only [beq_eq_false_iff_ne]; omega
                      have HV2 : Hid (res = true) := hidZ (by rw [HV.out, hme.out]; simp)
                      clear HV
                      go_wp2
                      all_goals exact bodyPost_ret (results_tmp rfl _ _ _) rfl ⟨by rw [HV2.out]; first | rfl | (rw [← e3]; rfl), b4'⟩
                · have e2 : ((dn : Int) == (ds : Int)) = false := by simp only [beq_eq_false_iff_ne]; omega
                  have HV2 : Hid (res = false) := hidZ (by rw [HV.out, decide_eq_false hdd]; rfl)
                  clear HV hdd
                  go_wp2
                  all_goals exact bodyPost_ret (results_tmp rfl _ _ _) rfl ⟨by rw [HV2.out]; rfl, b4'⟩
            · have hdl : 0 < (days.length : Int) := by
                have : days.length ≠ 0 := fun h => hd0 (List.eq_nil_of_length_eq_zero h)
                omega
              have HV : Hid (res = true) := hidZ (by rw [hlv2.out]; cases days with
                | nil => exact absurd rfl hd0
                | cons a l => simp)
              clear hlv2 hf0
              go_wp2
              all_goals exact bodyPost_ret (results_tmp rfl _ _ _) rfl ⟨by rw [HV.out]; rfl, b4'⟩
          · have hwl : 0 < (wds.length : Int) := by
              have : wds.length ≠ 0 := fun h => hw0 (List.eq_nil_of_length_eq_zero h)
              omega
            have HV : Hid (res = true) := hidZ (by rw [hlv2.out]; cases wds with
              | nil => exact absurd rfl hw0
              | cons a l => simp)
            clear hlv2 hf0
            go_wp2
            all_goals exact bodyPost_ret (results_tmp rfl _ _ _) rfl ⟨by rw [HV.out]; rfl, b4'⟩
end Go.Proofs.YtjhnpcnamclfbaaGreatDoor
