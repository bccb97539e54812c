/- With rules more: the law's own walk. No condition. -/
import Derived.Test.YtddeekefomhbmaaGreatDoorAo
import Derived.Test.YtddeekefomhbmaaGreatDoorAf
import Derived.RegionTactic
import Derived.Deep.RegionWith
namespace Go.Proofs.YtddeekefomhbmaaGreatDoor
open Go Go.RowKit Go.Shelf
attribute [local go_sem] Oper.semAt_some

theorem makeG_most {gs : List (Nat × List Nat)} : mostG (makeG gs) ≤ 3 := by
  induction gs with
  | nil => exact Nat.zero_le _
  | cons g gs ih =>
    show max (g.1 % 4) (mostG (makeG gs)) ≤ 3
    have := Nat.mod_lt g.1 (show 4 > 0 by omega)
    omega
theorem makeG_len {gs : List (Nat × List Nat)} : (makeG gs).length = gs.length := List.length_map _
theorem makeG_rows {gs : List (Nat × List Nat)} {n : Nat} (h : ∀ g ∈ gs, g.2.length ≤ n) : ∀ r ∈ makeG gs, r.2.length ≤ n := fun r hr => by
  obtain ⟨g, hg, rfl⟩ := List.mem_map.1 hr
  show (g.2.map makeS).length ≤ n
  rw [List.length_map]; exact h g hg

theorem isG_form {w : World} {v : Value} {R : List GRule} (h : IsG w v R) : ∃ a c, v = .slice a R.length c := by
  rcases h with ⟨rfl, rfl⟩ | ⟨b, c, rfl, _⟩
  · exact ⟨_, _, rfl⟩
  · exact ⟨_, _, rfl⟩
set_option maxRecDepth 100000 in
set_option maxHeartbeats 2000000 in
theorem more_calls (v1 v2 : Value) (gs ms : List (Nat × List Nat)) (w : World) (hAw : Calls Tryz.prog 6 #[] w fun e w' => e = .returned (.bool true) ∧ Below w.heap.size w w')
    (h1 : RowG w v1 gs) (h2 : RowG w v2 ms) (hF1 : FitG gs) (hF2 : FitG ms) (hv1 : v1 = .slice none 0 0 ∨ ∃ a n c, v1 = .slice (some a) n c) (hv2 : v2 = .slice none 0 0 ∨ ∃ a n c, v2 = .slice (some a) n c) :
    Calls Tryz.prog 3 #[v1, v2] w fun e w' => e = .returned (.bool true) ∧ Below w.heap.size w w' := by
  have t330 := Tryz.underlying27; have a330 := Tryz.isAgg27; have z330 := Tryz.sizeOf27; have u330 := run_underlying Tryz.underlying27
  have hbl : ∀ {W W' : World}, Below w.heap.size w W → Below W.heap.size W W' → Below w.heap.size w W' := fun {W W'} h h' => h.trans (h'.mono h.size)
  have hrow1 : ∀ {W : World}, Below w.heap.size w W → RowG W v1 gs := fun h => rowG_below h1 h
  have hrow2 : ∀ {W : World}, Below w.heap.size w W → RowG W v2 ms := fun h => rowG_below h2 h
  have hl1 : ∀ {W : World}, Below w.heap.size w W → Calls Tryz.prog 7 #[v1] W fun e w' => e = .returned (.bool (lightG gs)) ∧ Below W.heap.size W w' := fun {W} h => light_calls _ _ W (fun W' hW' => hrow1 (hbl h hW')) hF1
  have hl2 : ∀ {W : World}, Below w.heap.size w W → Calls Tryz.prog 7 #[v2] W fun e w' => e = .returned (.bool (lightG ms)) ∧ Below W.heap.size W w' := fun {W} h => light_calls _ _ W (fun W' hW' => hrow2 (hbl h hW')) hF2
  go_enter Tryz.func3, Tryz.ntmps3
  go_wp2_with fail
  refine hAw.mono ?_
  rintro e w1 ⟨rfl, b1⟩
  go_wp2_with fail
  refine (hl1 b1).mono ?_
  rintro e w2 ⟨rfl, b2⟩
  have b2 := hbl b1 b2
  cases hL1 : lightG gs with
  | false =>
    go_wp2
    exact bodyPost_ret (results_tmp rfl _ _ _) rfl ⟨rfl, b2⟩
  | true =>
    go_wp2_with fail
    refine (hl2 b2).mono ?_
    rintro e w3 ⟨rfl, b3⟩
    have b3 := hbl b2 b3
    cases hL2 : lightG ms with
    | false =>
      go_wp2
      exact bodyPost_ret (results_tmp rfl _ _ _) rfl ⟨rfl, b3⟩
    | true =>
      obtain ⟨q1, q2⟩ := lightG_iff.1 hL1
      obtain ⟨p1, p2⟩ := lightG_iff.1 hL2
      clear hL1 hL2
      go_wp2_with fail
      refine (make_calls _ gs w3 (fun W hW => hrow1 (hbl b3 hW)) (by omega) (fun g hg => by have := q1 g hg; omega) (fun g hg => (hF1.1 g hg).2.1)).mono ?_
      rintro e w4 ⟨u1, rfl, hI1, b4⟩
      obtain ⟨ua1, uc1, hu1⟩ := isG_form hI1
      subst hu1
      have b4' := hbl b3 b4
      go_wp2_with fail
      refine (clone_calls hv1 (hrow1 b4') q2).mono ?_
      rintro e w5 ⟨vc, xs, rfl, hown5, hx5, b5⟩
      have b5' := hbl b4' b5
      obtain ⟨iG, hi, hz0, hz1, hz2⟩ := info_parts infoG
      have hI1' : ∀ {W : World}, Below w.heap.size w4 W → w4.heap.size ≤ W.heap.size → Below w4.heap.size w4 W → IsG W (.slice ua1 (makeG gs).length uc1) (makeG gs) := fun _ _ h => isG_below hI1 h
      have hgm : (gs ++ ms).length ≤ 100 := by rw [List.length_append]; omega
      have hgr : ∀ g ∈ gs ++ ms, g.2.length ≤ 100 := fun g hg => by
        rcases List.mem_append.1 hg with h | h
        · have := q1 g h; omega
        · have := p1 g h; omega
      have hgb : ∀ g ∈ gs ++ ms, ∀ z ∈ g.2, z < 256 := fun g hg => by
        rcases List.mem_append.1 hg with h | h
        · exact (hF1.1 g h).2.1
        · exact (hF2.1 g h).2.1
      have hmx : maxLen = 9223372036854775807 := rfl
      have HMX := hid' hmx
      clear hmx
      rcases hv2 with rfl | ⟨a2, n2, c2, rfl⟩
      · have hms : Hid (ms = []) := by
          obtain ⟨a, c, e⟩ := rowG_form h2
          have : 0 = ms.length := by injection e
          exact hid' (List.eq_nil_of_length_eq_zero this.symm)
        go_wp2_with (at_builtin; refine wpList_append_own_none rfl _ _ 22 rfl w4.heap.size 32 iG 2 Tryz.underlying22 hi vc gs.length xs rfl hown5 rfl ?_)
        have hG6 : RowG w5 vc (gs ++ ms) := by rw [hms.out, List.append_nil]; exact (hx5.below b5).rowG hown5
        refine (make_calls vc (gs ++ ms) w5 (fun W hW => rowG_below hG6 hW) hgm hgr hgb).mono ?_
        rintro e w7 ⟨u2, rfl, hI2, b7⟩
        obtain ⟨ua2, uc2, hu2⟩ := isG_form hI2
        subst hu2
        have b47 : Below w4.heap.size w4 w7 := b5.trans (b7.mono b5.size)
        have b7' := hbl b5' b7
        have hI1'' := isG_below hI1 b47
        go_wp2_with fail
        obtain ⟨W8, hW8⟩ : ∃ W8, ((w7.alloc (.cells #[.slice ua1 (makeG gs).length uc1] 27)).alloc (.cells #[.slice ua2 (makeG (gs ++ ms)).length uc2] 27)) = W8 := ⟨_, rfl⟩
        rw [hW8]
        have b8 : Below w7.heap.size w7 W8 := by rw [← hW8]; exact ((Below.refl _ w7).alloc (Nat.le_refl _) _).alloc (by simp) _
        have k1 : Boxed W8 w7.heap.size 27 (.slice ua1 (makeG gs).length uc1) := by rw [← hW8]; exact (Boxed.new w7 _ _).alloc _
        have k2 : Boxed W8 (w7.heap.size + 1) 27 (.slice ua2 (makeG (gs ++ ms)).length uc2) := by
          rw [← hW8]
          have := Boxed.new (w7.alloc (.cells #[.slice ua1 (makeG gs).length uc1] 27)) 27 (.slice ua2 (makeG (gs ++ ms)).length uc2)
          simpa using this
        have hs8 : W8.heap.size = w7.heap.size + 2 := by rw [← hW8]; simp
        clear hW8
        have hEa : ∀ W, Below w7.heap.size w7 W → Calls Tryz.prog 10 #[.agg #[.slice ua1 (makeG gs).length uc1]] W fun e w' => ∃ g out, e = .returned (.slice (some ⟨g, 0, none⟩) out.length out.length) ∧ W.heap.size ≤ g ∧ OutAt w' g out ∧ out.length = mostG (makeG gs) + 1 ∧ (∀ k : Nat, out[k]? = some true ↔ Nul (makeG gs) k) ∧ Below W.heap.size W w' := fun W hW =>
          empty_calls _ _ W (fun W' hW' => isG_below hI1'' (hW.trans (hW'.mono hW.size))) (by rw [makeG_len]; omega) (Nat.le_trans makeG_most (by omega)) (makeG_rows fun g hg => by have := q1 g hg; omega)
        have hEb : ∀ W, Below w7.heap.size w7 W → Calls Tryz.prog 10 #[.agg #[.slice ua2 (makeG (gs ++ ms)).length uc2]] W fun e w' => ∃ g out, e = .returned (.slice (some ⟨g, 0, none⟩) out.length out.length) ∧ W.heap.size ≤ g ∧ OutAt w' g out ∧ out.length = mostG (makeG (gs ++ ms)) + 1 ∧ (∀ k : Nat, out[k]? = some true ↔ Nul (makeG (gs ++ ms)) k) ∧ Below W.heap.size W w' := fun W hW =>
          empty_calls _ _ W (fun W' hW' => isG_below hI2 (hW.trans (hW'.mono hW.size))) (by rw [makeG_len]; exact hgm) (Nat.le_trans makeG_most (by omega)) (makeG_rows hgr)
        have c1 := k1.cell
        have c2' := k2.cell
        have b8d : Below w7.heap.size w7 W8.drew := ⟨b8.os, b8.tape, b8.output, b8.size, b8.block⟩
        go_region_with (first
          | (go_at_call 10; refine (hEb _ b9').mono ?_; rintro e w10 ⟨g2, o2, rfl, hg2, hO2, hol2, hN2, b10⟩)
          | (go_at_call 10; refine (hEa W8.drew b8d).mono ?_; rintro e w9 ⟨g1, o1, rfl, hg1, hO1, hol1, hN1, b9⟩; have b9' := b8d.trans (b9.mono b8d.size); have c2'' : w9.cell? ⟨w7.heap.size + 1, 0, none⟩ = some (.slice ua2 (makeG (gs ++ ms)).length uc2) := (b9.cell (p := ⟨w7.heap.size + 1, 0, none⟩) k2.lt).trans c2'))
        all_goals (
          have b10' := b9'.trans (b10.mono b9'.size)
          have k1' : w10.cell? ⟨w7.heap.size, 0, none⟩ = some (.slice ua1 (makeG gs).length uc1) := by
            have h9 : w9.cell? ⟨w7.heap.size, 0, none⟩ = some (.slice ua1 (makeG gs).length uc1) := (b9.cell (p := ⟨w7.heap.size, 0, none⟩) k1.lt).trans c1
            exact (b10.cell (p := ⟨w7.heap.size, 0, none⟩) (lt_of_cellC h9)).trans h9
          have k2' : w10.cell? ⟨w7.heap.size + 1, 0, none⟩ = some (.slice ua2 (makeG (gs ++ ms)).length uc2) := (b10.cell (p := ⟨w7.heap.size + 1, 0, none⟩) (lt_of_cellC c2'')).trans c2''
          have hO1' : OutAt w10 g1 o1 := (Chg.of_below b10).ownsRow' hO1 fun q e h => by cases e; have h : w9.heap.size ≤ g1 := h; have := (hO1.lt g1 rfl).2; omega
          have hmm : mostG (makeG gs) ≤ mostG (makeG (gs ++ ms)) := by
            have : ∀ l l' : List GRule, mostG l ≤ mostG (l ++ l') := fun l l' => by
              induction l with
              | nil => exact Nat.zero_le _
              | cons a l ih => simp only [List.cons_append, mostG]; omega
            unfold makeG; rw [List.map_append]; exact this _ _
          have hcx : ∀ j, j < mostG (makeG gs) + 1 → w10.cell? ⟨g1, j, none⟩ = some (.bool ((o1[j]?).getD false)) := fun j hj => by
            rw [outAt_cell hO1' (j := j) (by omega), List.getElem?_eq_getElem (by omega)]; rfl
          have hcy : ∀ j, j < mostG (makeG gs) + 1 → w10.cell? ⟨g2, j, none⟩ = some (.bool ((o2[j]?).getD false)) := fun j hj => by
            rw [outAt_cell hO2 (j := j) (by omega), List.getElem?_eq_getElem (by omega)]; rfl
          have hxy : ∀ j : Nat, (o1[j]?).getD false = true → (o2[j]?).getD false = true := fun j h => by
            have h1 : o1[j]? = some true := by cases h' : o1[j]? with
              | none => rw [h'] at h; cases h
              | some b => rw [h'] at h; have h : b = true := h; rw [h]
            have := (hN2 j).2 (((hN1 j).1 h1).mono makeG_more)
            rw [this]; rfl
          have hLa : Calls Tryz.prog 11 #[.agg #[.slice ua1 (makeG gs).length uc1]] w10 fun e w' => ∃ b, e = .returned (.bool b) ∧ (b = true ↔ Loopy (makeG gs)) ∧ Below w10.heap.size w10 w' :=
            loops_calls _ _ w10 (fun W' hW' => isG_below hI1'' (b10'.trans (hW'.mono b10'.size))) (by rw [makeG_len]; omega) (Nat.le_trans makeG_most (by omega)) (makeG_rows fun g hg => by have := q1 g hg; omega)
          have hLb : ∀ W, Below w7.heap.size w7 W → Calls Tryz.prog 11 #[.agg #[.slice ua2 (makeG (gs ++ ms)).length uc2]] W fun e w' => ∃ b, e = .returned (.bool b) ∧ (b = true ↔ Loopy (makeG (gs ++ ms))) ∧ Below W.heap.size W w' := fun W hW =>
            loops_calls _ _ W (fun W' hW' => isG_below hI2 (hW.trans (hW'.mono hW.size))) (by rw [makeG_len]; exact hgm) (Nat.le_trans makeG_most (by omega)) (makeG_rows hgr)
          have m3 : mostG (makeG gs) ≤ 3 := makeG_most
          have m4 : mostG (makeG (gs ++ ms)) ≤ 3 := makeG_most
          have HOL1 := hid' hol1; have HOL2 := hid' hol2; have HO := hid' hO2
          clear hol1 hol2 hEa hEb c1 c2' c2''
          go_wp2
          go_loopw [33] (fun i W => ∃ k : Nat, k ≤ mostG (makeG gs) + 1 ∧ i = .int .i64 k ∧ W = w10) (fun i _ => mostG (makeG gs) + 1 - (valI i).toNat)
          case atStart => exact ⟨0, Nat.zero_le _, rfl, rfl⟩
          case round =>
            obtain ⟨k, hk, rfl, rfl⟩ := hrel
            by_cases hkn : k < mostG (makeG gs) + 1
            · have i1 : (k : Int) < (mostG (makeG gs) : Int) + 1 := by omega
              have i2 : ¬ ((mostG (makeG (gs ++ ms)) : Int) + 1 ≤ (k : Int)) := by omega
              have i3 : (k : Int) < (mostG (makeG (gs ++ ms)) : Int) + 1 := by omega
              have x1 := hcx k hkn
              have y1 := hcy k hkn
              have xy := hxy k
              generalize (o1[k]?).getD false = bx at x1 xy
              generalize (o2[k]?).getD false = byy at y1 xy
              cases bx with
              | false =>
                go_wp2
                all_goals exact ⟨⟨k + 1, by omega, by go_num, trivial⟩, by simp [valI]; omega⟩
              | true =>
                have : byy = true := xy rfl
                subst this
                clear xy
                go_wp2
                all_goals exact ⟨⟨k + 1, by omega, by go_num, trivial⟩, by simp [valI]; omega⟩
            · go_wp2_with fail
              refine hLa.mono ?_
              rintro e w11 ⟨ba, rfl, hba, b11⟩
              have b11' := b10'.trans (b11.mono b10'.size)
              have k3 : w11.cell? ⟨w7.heap.size + 1, 0, none⟩ = some (.slice ua2 (makeG (gs ++ ms)).length uc2) := (b11.cell (p := ⟨w7.heap.size + 1, 0, none⟩) (lt_of_cellC k2')).trans k2'
              cases ba with
              | false =>
                go_wp2
                exact bodyPost_ret (results_tmp rfl _ _ _) rfl ⟨rfl, hbl b7' b11'⟩
              | true =>
                go_wp2_with fail
                refine (hLb w11 b11').mono ?_
                rintro e w12 ⟨bb, rfl, hbb, b12⟩
                have hb : bb = true := hbb.2 ((hba.1 (by trivial)).mono makeG_more)
                subst hb
                go_wp2
                exact bodyPost_ret (results_tmp rfl _ _ _) rfl ⟨rfl, hbl b7' (b11'.trans (b12.mono b11'.size))⟩)
      · obtain ⟨rfl, ys, hy, hyc4⟩ := rowG_cells (hrow2 b4')
        have hyc : ∀ j u, ys[j]? = some u → w5.cell? (a2.add j) = some u := fun j u hj => (b5.cell (lt_of_cellC (hyc4 j u hj))).trans (hyc4 j u hj)
        go_wp2_with (at_builtin; refine wpList_append_own _ rfl _ _ 22 rfl w4.heap.size 32 iG (.agg #[.int .u8 0, .slice none 0 0]) 2 32 Tryz.underlying22 hi hz0 hz1 hz2 rfl (by decide) vc gs.length xs rfl hown5 a2 ms.length c2 ys rfl hy.1 hyc hy.2.1 (by rw [HMX.out]; omega) (by omega) b5.size ?_; intro v' w6 hown6 hgrow6 _)
        have b46 : Below w4.heap.size w4 w6 := b5.grown hgrow6 b5.size fun j e => (hown5.lt j e).1
        have b6' := hbl b4' b46
        have hG6 : RowG w6 v' (gs ++ ms) := ((hx5.below b46).app (hy.below b46)).rowG (by rw [List.length_append]; exact hown6)
        refine (make_calls v' (gs ++ ms) w6 (fun W hW => rowG_below hG6 hW) hgm hgr hgb).mono ?_
        rintro e w7 ⟨u2, rfl, hI2, b7⟩
        obtain ⟨ua2, uc2, hu2⟩ := isG_form hI2
        subst hu2
        have b47 : Below w4.heap.size w4 w7 := b46.trans (b7.mono b46.size)
        have b7' := hbl b6' b7
        have hI1'' := isG_below hI1 b47
        go_wp2_with fail
        obtain ⟨W8, hW8⟩ : ∃ W8, ((w7.alloc (.cells #[.slice ua1 (makeG gs).length uc1] 27)).alloc (.cells #[.slice ua2 (makeG (gs ++ ms)).length uc2] 27)) = W8 := ⟨_, rfl⟩
        rw [hW8]
        have b8 : Below w7.heap.size w7 W8 := by rw [← hW8]; exact ((Below.refl _ w7).alloc (Nat.le_refl _) _).alloc (by simp) _
        have k1 : Boxed W8 w7.heap.size 27 (.slice ua1 (makeG gs).length uc1) := by rw [← hW8]; exact (Boxed.new w7 _ _).alloc _
        have k2 : Boxed W8 (w7.heap.size + 1) 27 (.slice ua2 (makeG (gs ++ ms)).length uc2) := by
          rw [← hW8]
          have := Boxed.new (w7.alloc (.cells #[.slice ua1 (makeG gs).length uc1] 27)) 27 (.slice ua2 (makeG (gs ++ ms)).length uc2)
          simpa using this
        have hs8 : W8.heap.size = w7.heap.size + 2 := by rw [← hW8]; simp
        clear hW8
        have hEa : ∀ W, Below w7.heap.size w7 W → Calls Tryz.prog 10 #[.agg #[.slice ua1 (makeG gs).length uc1]] W fun e w' => ∃ g out, e = .returned (.slice (some ⟨g, 0, none⟩) out.length out.length) ∧ W.heap.size ≤ g ∧ OutAt w' g out ∧ out.length = mostG (makeG gs) + 1 ∧ (∀ k : Nat, out[k]? = some true ↔ Nul (makeG gs) k) ∧ Below W.heap.size W w' := fun W hW =>
          empty_calls _ _ W (fun W' hW' => isG_below hI1'' (hW.trans (hW'.mono hW.size))) (by rw [makeG_len]; omega) (Nat.le_trans makeG_most (by omega)) (makeG_rows fun g hg => by have := q1 g hg; omega)
        have hEb : ∀ W, Below w7.heap.size w7 W → Calls Tryz.prog 10 #[.agg #[.slice ua2 (makeG (gs ++ ms)).length uc2]] W fun e w' => ∃ g out, e = .returned (.slice (some ⟨g, 0, none⟩) out.length out.length) ∧ W.heap.size ≤ g ∧ OutAt w' g out ∧ out.length = mostG (makeG (gs ++ ms)) + 1 ∧ (∀ k : Nat, out[k]? = some true ↔ Nul (makeG (gs ++ ms)) k) ∧ Below W.heap.size W w' := fun W hW =>
          empty_calls _ _ W (fun W' hW' => isG_below hI2 (hW.trans (hW'.mono hW.size))) (by rw [makeG_len]; exact hgm) (Nat.le_trans makeG_most (by omega)) (makeG_rows hgr)
        have c1 := k1.cell
        have c2' := k2.cell
        have b8d : Below w7.heap.size w7 W8.drew := ⟨b8.os, b8.tape, b8.output, b8.size, b8.block⟩
        go_region_with (first
          | (go_at_call 10; refine (hEb _ b9').mono ?_; rintro e w10 ⟨g2, o2, rfl, hg2, hO2, hol2, hN2, b10⟩)
          | (go_at_call 10; refine (hEa W8.drew b8d).mono ?_; rintro e w9 ⟨g1, o1, rfl, hg1, hO1, hol1, hN1, b9⟩; have b9' := b8d.trans (b9.mono b8d.size); have c2'' : w9.cell? ⟨w7.heap.size + 1, 0, none⟩ = some (.slice ua2 (makeG (gs ++ ms)).length uc2) := (b9.cell (p := ⟨w7.heap.size + 1, 0, none⟩) k2.lt).trans c2'))
        all_goals (
          have b10' := b9'.trans (b10.mono b9'.size)
          have k1' : w10.cell? ⟨w7.heap.size, 0, none⟩ = some (.slice ua1 (makeG gs).length uc1) := by
            have h9 : w9.cell? ⟨w7.heap.size, 0, none⟩ = some (.slice ua1 (makeG gs).length uc1) := (b9.cell (p := ⟨w7.heap.size, 0, none⟩) k1.lt).trans c1
            exact (b10.cell (p := ⟨w7.heap.size, 0, none⟩) (lt_of_cellC h9)).trans h9
          have k2' : w10.cell? ⟨w7.heap.size + 1, 0, none⟩ = some (.slice ua2 (makeG (gs ++ ms)).length uc2) := (b10.cell (p := ⟨w7.heap.size + 1, 0, none⟩) (lt_of_cellC c2'')).trans c2''
          have hO1' : OutAt w10 g1 o1 := (Chg.of_below b10).ownsRow' hO1 fun q e h => by cases e; have h : w9.heap.size ≤ g1 := h; have := (hO1.lt g1 rfl).2; omega
          have hmm : mostG (makeG gs) ≤ mostG (makeG (gs ++ ms)) := by
            have : ∀ l l' : List GRule, mostG l ≤ mostG (l ++ l') := fun l l' => by
              induction l with
              | nil => exact Nat.zero_le _
              | cons a l ih => simp only [List.cons_append, mostG]; omega
            unfold makeG; rw [List.map_append]; exact this _ _
          have hcx : ∀ j, j < mostG (makeG gs) + 1 → w10.cell? ⟨g1, j, none⟩ = some (.bool ((o1[j]?).getD false)) := fun j hj => by
            rw [outAt_cell hO1' (j := j) (by omega), List.getElem?_eq_getElem (by omega)]; rfl
          have hcy : ∀ j, j < mostG (makeG gs) + 1 → w10.cell? ⟨g2, j, none⟩ = some (.bool ((o2[j]?).getD false)) := fun j hj => by
            rw [outAt_cell hO2 (j := j) (by omega), List.getElem?_eq_getElem (by omega)]; rfl
          have hxy : ∀ j : Nat, (o1[j]?).getD false = true → (o2[j]?).getD false = true := fun j h => by
            have h1 : o1[j]? = some true := by cases h' : o1[j]? with
              | none => rw [h'] at h; cases h
              | some b => rw [h'] at h; have h : b = true := h; rw [h]
            have := (hN2 j).2 (((hN1 j).1 h1).mono makeG_more)
            rw [this]; rfl
          have hLa : Calls Tryz.prog 11 #[.agg #[.slice ua1 (makeG gs).length uc1]] w10 fun e w' => ∃ b, e = .returned (.bool b) ∧ (b = true ↔ Loopy (makeG gs)) ∧ Below w10.heap.size w10 w' :=
            loops_calls _ _ w10 (fun W' hW' => isG_below hI1'' (b10'.trans (hW'.mono b10'.size))) (by rw [makeG_len]; omega) (Nat.le_trans makeG_most (by omega)) (makeG_rows fun g hg => by have := q1 g hg; omega)
          have hLb : ∀ W, Below w7.heap.size w7 W → Calls Tryz.prog 11 #[.agg #[.slice ua2 (makeG (gs ++ ms)).length uc2]] W fun e w' => ∃ b, e = .returned (.bool b) ∧ (b = true ↔ Loopy (makeG (gs ++ ms))) ∧ Below W.heap.size W w' := fun W hW =>
            loops_calls _ _ W (fun W' hW' => isG_below hI2 (hW.trans (hW'.mono hW.size))) (by rw [makeG_len]; exact hgm) (Nat.le_trans makeG_most (by omega)) (makeG_rows hgr)
          have m3 : mostG (makeG gs) ≤ 3 := makeG_most
          have m4 : mostG (makeG (gs ++ ms)) ≤ 3 := makeG_most
          have HOL1 := hid' hol1; have HOL2 := hid' hol2; have HO := hid' hO2
          clear hol1 hol2 hEa hEb c1 c2' c2''
          go_wp2
          go_loopw [33] (fun i W => ∃ k : Nat, k ≤ mostG (makeG gs) + 1 ∧ i = .int .i64 k ∧ W = w10) (fun i _ => mostG (makeG gs) + 1 - (valI i).toNat)
          case atStart => exact ⟨0, Nat.zero_le _, rfl, rfl⟩
          case round =>
            obtain ⟨k, hk, rfl, rfl⟩ := hrel
            by_cases hkn : k < mostG (makeG gs) + 1
            · have i1 : (k : Int) < (mostG (makeG gs) : Int) + 1 := by omega
              have i2 : ¬ ((mostG (makeG (gs ++ ms)) : Int) + 1 ≤ (k : Int)) := by omega
              have i3 : (k : Int) < (mostG (makeG (gs ++ ms)) : Int) + 1 := by omega
              have x1 := hcx k hkn
              have y1 := hcy k hkn
              have xy := hxy k
              generalize (o1[k]?).getD false = bx at x1 xy
              generalize (o2[k]?).getD false = byy at y1 xy
              cases bx with
              | false =>
                go_wp2
                all_goals exact ⟨⟨k + 1, by omega, by go_num, trivial⟩, by simp [valI]; omega⟩
              | true =>
                have : byy = true := xy rfl
                subst this
                clear xy
                go_wp2
                all_goals exact ⟨⟨k + 1, by omega, by go_num, trivial⟩, by simp [valI]; omega⟩
            · go_wp2_with fail
              refine hLa.mono ?_
              rintro e w11 ⟨ba, rfl, hba, b11⟩
              have b11' := b10'.trans (b11.mono b10'.size)
              have k3 : w11.cell? ⟨w7.heap.size + 1, 0, none⟩ = some (.slice ua2 (makeG (gs ++ ms)).length uc2) := (b11.cell (p := ⟨w7.heap.size + 1, 0, none⟩) (lt_of_cellC k2')).trans k2'
              cases ba with
              | false =>
                go_wp2
                exact bodyPost_ret (results_tmp rfl _ _ _) rfl ⟨rfl, hbl b7' b11'⟩
              | true =>
                go_wp2_with fail
                refine (hLb w11 b11').mono ?_
                rintro e w12 ⟨bb, rfl, hbb, b12⟩
                have hb : bb = true := hbb.2 ((hba.1 (by trivial)).mono makeG_more)
                subst hb
                go_wp2
                exact bodyPost_ret (results_tmp rfl _ _ _) rfl ⟨rfl, hbl b7' (b11'.trans (b12.mono b11'.size))⟩)
end Go.Proofs.YtddeekefomhbmaaGreatDoor
