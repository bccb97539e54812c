/- Of any grammar: the law's own walk. No condition. -/
import Derived.Test.YtddeekefomhbmaaGreatDoorAt
namespace Go.Proofs.YtddeekefomhbmaaGreatDoor
open Go Go.RowKit Go.Shelf Go.Lib
attribute [local go_sem] Oper.semAt_some

/-- 'slices.Equal' at two rows alike. -/
theorem equal_own {w : World} {base base2 : Nat} {v u : Value} {zs : List Int} (h : w.ownsRow base 3 1 v zs.length (zs.map (Value.int .i64))) (h2 : w.ownsRow base2 3 1 u zs.length (zs.map (Value.int .i64))) (hl : zs.length ≤ 100000) :
    Calls Tryz.prog 12 #[v, u] w fun e w' => e = .returned (.bool true) ∧ Below w.heap.size w w' := by
  have emp : ∀ (a1 a2 : Option Addr) (c d : Nat), Calls Tryz.prog 12 #[.slice a1 0 c, .slice a2 0 d] w fun e w' => e = .returned (.bool true) ∧ Below w.heap.size w w' := fun a1 a2 c d => by
    refine (Tryz.slices_Equal_int_empty a1 a2 c 0 d w (by omega)).mono ?_
    rintro e w' ⟨rfl, rfl⟩
    exact ⟨rfl, Below.refl _ _⟩
  by_cases hz : zs = []
  · subst hz
    rcases own_cell1 h with ⟨rfl, _, _⟩ | ⟨g, cap, rfl, _, _, hc⟩ <;> rcases own_cell1 h2 with ⟨rfl, _, _⟩ | ⟨g2, cap2, rfl, _, _, hc2⟩ <;> exact emp _ _ _ _
  · have hp : zs.length ≠ 0 := fun e => hz (List.eq_nil_of_length_eq_zero e)
    rcases own_cell1 h with ⟨_, e, _⟩ | ⟨g, cap, rfl, _, _, hc⟩
    · exact absurd e hp
    rcases own_cell1 h2 with ⟨_, e, _⟩ | ⟨g2, cap2, rfl, _, _, hc2⟩
    · exact absurd e hp
    have cl : ∀ {g : Nat}, (∀ (j : Nat) x, (zs.map (Value.int .i64))[j]? = some x → w.cell? ⟨g, j, none⟩ = some x) → ∀ j, j < zs.length → w.cell? ⟨g, 0 + j, none⟩ = some (.int .i64 (zs.getD j 0)) := fun hc j hj => by
      rw [Nat.zero_add]
      refine hc j _ ?_
      rw [List.getElem?_map, List.getElem?_eq_getElem hj]
      simp [List.getD, List.getElem?_eq_getElem hj]
    refine (Tryz.slices_Equal_int g 0 zs.length cap g2 0 zs.length cap2 zs zs w (Nat.le_refl _) (Nat.le_refl _) (by omega) (by omega) (cl hc) (cl hc2)).mono ?_
    rintro e w' ⟨rfl, q, rfl⟩
    exact ⟨by simp, ⟨rfl, rfl, rfl, Nat.le_refl _, fun _ _ => rfl⟩⟩
theorem makeG_small {gs : List (Nat × List Nat)} : ∀ r ∈ makeG gs, ∀ k, some k ∈ r.2 → k < 4 := fun r hr k hk => by
  obtain ⟨g, _, rfl⟩ := List.mem_map.1 hr
  obtain ⟨z, _, hz⟩ := List.mem_map.1 hk
  unfold makeS at hz
  split at hz
  · cases hz
  · have : z / 2 % 4 = k := by injection hz
    omega

set_option maxRecDepth 100000 in
set_option maxHeartbeats 4000000 in
theorem ofL_calls (v1 : Value) (left : Int) (gs : List (Nat × List Nat)) (w : World) (hAw : Calls Tryz.prog 6 #[] w fun e w' => e = .returned (.bool true) ∧ Below w.heap.size w w')
    (h1 : RowG w v1 gs) (hF1 : FitG gs) :
    Calls Tryz.prog 4 #[v1, .int .i64 left] w fun e w' => e = .returned (.bool true) ∧ Below w.heap.size w w' := by
  have t330 := Tryz.underlying27; have a330 := Tryz.isAgg27; have z330 := Tryz.sizeOf27; have u330 := run_underlying Tryz.underlying27
  have t402 := Tryz.underlying39; have a402 := Tryz.isAgg39; have z402 := Tryz.sizeOf39; have u402 := run_underlying Tryz.underlying39
  have hbl : ∀ {W W' : World}, Below w.heap.size w W → Below W.heap.size W W' → Below w.heap.size w W' := fun {W W'} h h' => h.trans (h'.mono h.size)
  have hrow1 : ∀ {W : World}, Below w.heap.size w W → RowG W v1 gs := fun h => rowG_below h1 h
  have hl1 : ∀ {W : World}, Below w.heap.size w W → Calls Tryz.prog 7 #[v1] W fun e w' => e = .returned (.bool (lightG gs)) ∧ Below W.heap.size W w' := fun {W} h => light_calls _ _ W (fun W' hW' => hrow1 (hbl h hW')) hF1
  obtain ⟨i0, hi, hz0, hz1, hz2⟩ := info_parts info3
  go_enter Tryz.func4, Tryz.ntmps4
  go_wp2_with fail
  refine hAw.mono ?_
  rintro e w1 ⟨rfl, b1⟩
  go_wp2_with fail
  refine (hl1 b1).mono ?_
  rintro e w2 ⟨rfl, b2⟩
  have b2 := hbl b1 b2
  cases hL1 : lightG gs with
  | false =>
    go_wp2
    exact bodyPost_ret (results_tmp rfl _ _ _) rfl ⟨rfl, b2⟩
  | true =>
    obtain ⟨q1, q2⟩ := lightG_iff.1 hL1
    clear hL1
    go_wp2_with fail
    refine (make_calls _ gs w2 (fun W hW => hrow1 (hbl b2 hW)) (by omega) (fun g hg => by have := q1 g hg; omega) (fun g hg => (hF1.1 g hg).2.1)).mono ?_
    rintro e w4 ⟨u1, rfl, hI1, b4⟩
    obtain ⟨ua, uc, hu1⟩ := isG_form hI1
    subst hu1
    have b4' := hbl b2 b4
    have hG : LiesG w4 ua uc (makeG gs) := LiesG.of hI1
    have hRl : (makeG gs).length ≤ 10 := by rw [makeG_len]; exact q2
    have hR4 : ∀ r ∈ makeG gs, r.2.length ≤ 4 := makeG_rows q1
    have hRk := @makeG_small gs
    have hRm : mostG (makeG gs) ≤ 3 := makeG_most
    have hRn : ∀ k, nul (makeG gs) 5 k = true ↔ Nul (makeG gs) k := fun k => nul_iff.symm
    have hLL : ∀ W, Below w4.heap.size w4 W → Calls Tryz.prog 15 #[.agg #[.slice ua (makeG gs).length uc]] W fun e w' => (∃ b, e = .returned (.bool b) ∧ (b = true ↔ Loopy (makeG gs))) ∧ Below W.heap.size W w' := fun W hW => loopsL_calls gs q2 hR4 hRk ua uc W (hG.at hW)
    generalize makeG gs = R at *
    have hIs : ∀ W, Below w4.heap.size w4 W → ∀ W', Below W.heap.size W W' → IsG W' (.slice ua R.length uc) R := fun W hW W' hW' => hG W' (hW.trans (hW'.mono hW.size))
    have hOf : ∀ W, Below w4.heap.size w4 W → Calls Tryz.prog 13 #[.agg #[.slice ua R.length uc], .int .i64 left] W fun e w' => ∃ u, e = .returned u ∧ w'.ownsRow W.heap.size 3 1 u (ofG left R 0).length ((ofG left R 0).map intV) ∧ Below W.heap.size W w' := fun W hW => of_calls _ R left W (hIs W hW) (by omega)
    have hEm : ∀ W, Below w4.heap.size w4 W → Calls Tryz.prog 10 #[.agg #[.slice ua R.length uc]] W fun e w' => ∃ g out, e = .returned (.slice (some ⟨g, 0, none⟩) out.length out.length) ∧ W.heap.size ≤ g ∧ OutAt w' g out ∧ out.length = mostG R + 1 ∧ (∀ k : Nat, out[k]? = some true ↔ Nul R k) ∧ Below W.heap.size W w' := fun W hW => empty_calls _ _ W (hIs W hW) (by omega) (by omega) (fun r hr => by have := hR4 r hr; omega)
    have hLG : ∀ W, Below w4.heap.size w4 W → Calls Tryz.prog 11 #[.agg #[.slice ua R.length uc]] W fun e w' => ∃ b, e = .returned (.bool b) ∧ (b = true ↔ Loopy R) ∧ Below W.heap.size W w' := fun W hW => loops_calls _ _ W (hIs W hW) (by omega) (by omega) (fun r hr => by have := hR4 r hr; omega)
    have hEl : ∀ (n : Nat) W, Below w4.heap.size w4 W → Calls Tryz.prog 14 #[.agg #[.slice ua R.length uc], .int .i64 (n : Int), .int .i64 ((5 : Nat) : Int)] W fun e w' => e = .returned (.bool (nul R 5 n)) ∧ Below W.heap.size W w' := fun n W hW => emptyL_calls R (by omega) (fun r hr => by have := hR4 r hr; omega) 5 n ua uc W (by omega) (hG.at hW)
    have bx : Below w4.heap.size w4 (w4.alloc (.cells #[.slice ua R.length uc] 27)) := (Below.refl _ w4).alloc (Nat.le_refl _) _
    have kx : Boxed (w4.alloc (.cells #[.slice ua R.length uc] 27)) w4.heap.size 27 (.slice ua R.length uc) := Boxed.new w4 _ _
    clear hl1 hrow1
    go_wp2
    generalize hW0 : w4.alloc (.cells #[.slice ua R.length uc] 27) = W0 at bx kx ⊢
    have bt : ∀ {W : World}, Below W0.heap.size W0 W → Below w4.heap.size w4 W := fun h => bx.trans (h.mono bx.size)
    have kg : ∀ {W : World}, Below W0.heap.size W0 W → W.cell? ⟨w4.heap.size, 0, none⟩ = some (.slice ua R.length uc) := fun {W} h => (h.cell (p := ⟨w4.heap.size, 0, none⟩) kx.lt).trans kx.cell
    clear hW0
    go_loopw [6, 7, 23] (fun m u i W => ∃ k : Nat, k ≤ R.length ∧ i = .int .i64 k ∧ m = .int .i64 ((mostG (R.take k) : Nat) : Int) ∧ Hid (W.ownsRow W0.heap.size 3 1 u (ofG left (R.take k) 0).length ((ofG left (R.take k) 0).map intV)) ∧ Hid (Below W0.heap.size W0 W)) (fun _ _ i _ => R.length - (valI i).toNat)
    case atStart => exact ⟨0, Nat.zero_le _, rfl, rfl, hid' (World.ownsRow_nil _ _ _ _), hid' (Below.refl _ _)⟩
    case round =>
      rename World => wq
      obtain ⟨k, hk, rfl, rfl, hO, hB⟩ := hrel
      by_cases hkn : k < R.length
      · obtain ⟨r, hr⟩ : ∃ r, R[k]? = some r := ⟨_, List.getElem?_eq_getElem hkn⟩
        obtain ⟨b, rfl, sx, sc, t, hcells, _⟩ := hG.rule hr
        obtain ⟨c1, c2, c3⟩ := hcells wq (bt hB.out)
        have hlt := ofG_len left (R.take k) 0
        rw [List.length_take] at hlt
        have htake : Hid (ofG left (R.take (k + 1)) 0 = ofG left (R.take k) 0 ++ (if (r.1 : Int) = left then [k] else [])) := by
          show _ = _
          rw [List.take_add_one, hr]
          show ofG left (R.take k ++ [r]) 0 = _
          rw [ofG_snoc, List.length_take, Nat.zero_add, Nat.min_eq_left (by omega)]
        have hmost : Hid (mostG (R.take (k + 1)) = max (mostG (R.take k)) r.1) := by
          show _ = _
          rw [List.take_add_one, hr]; exact mostG_snoc _ _
        have k1 : (k : Int) < (R.length : Int) := by omega
        clear hIs hOf hEm hLG hEl hLL
        have hUn : Hid (∀ W, Below W0.heap.size W0 W → ∀ u, W.ownsRow W0.heap.size 3 1 u (ofG left (R.take (k + 1)) 0).length ((ofG left (R.take (k + 1)) 0).map intV) → (∃ k' : Nat, k' ≤ R.length ∧ Value.int .i64 ((k : Int) + 1) = .int .i64 k' ∧ Value.int .i64 (max ((mostG (R.take k) : Nat) : Int) (r.1 : Int)) = .int .i64 ((mostG (R.take k') : Nat) : Int) ∧ Hid (W.ownsRow W0.heap.size 3 1 u (ofG left (R.take k') 0).length ((ofG left (R.take k') 0).map intV)) ∧ Hid (Below W0.heap.size W0 W)) ∧ R.length - (valI (.int .i64 ((k : Int) + 1))).toNat < R.length - (valI (.int .i64 (k : Int))).toNat) := hid' fun W hW u hu =>
          ⟨⟨k + 1, by omega, by go_num, by rw [hmost.out]; congr 1; omega, hid' hu, hid' hW⟩, by simp [valI]; omega⟩
        clear hmost
        have hob := hB.out.size
        by_cases he : (r.1 : Int) = left
        · have htake := htake.out
          rw [if_pos he] at htake
          rw [he] at hUn
          go_wp2_with (at_builtin; refine wpList_append_own _ rfl _ _ 36 rfl W0.heap.size 3 i0 (.int .i64 0) 1 8 Tryz.underlying36 hi hz0 hz1 hz2 rfl (by decide) _ _ _ rfl ((hO.out.alloc _).alloc _) ⟨wq.heap.size + 1, 0, none⟩ 1 1 [intV k] rfl rfl (by intro j u hj; have h := cell_one_new (wq.alloc (.cells #[.int .i64 left, .slice sx r.2.length sc, .int .i64 t] 39)) (intV k) 3 j u hj; rw [World.size_alloc] at h; exact h) (by simp [Value.oneCell', intV]) (by simp only [maxLen]; omega) (by omega) (by simp; omega) ?_; intro v' w3 hown' hgrow _)
          have hb3 : Below W0.heap.size wq w3 := (((Below.refl _ wq).alloc hob _).alloc (by simp; omega) _).grown hgrow (by simp; omega) fun j ej => (hO.out.lt j ej).1
          exact hUn.out _ (hB.out.trans hb3) _ (by rw [htake, List.map_append, List.length_append]; simpa using hown')
        · have htake := htake.out
          rw [if_neg he, List.append_nil] at htake
          go_wp2
          exact hUn.out _ (hB.out.trans ((Below.refl _ wq).alloc hob _)) _ (by rw [htake]; exact hO.out.alloc _)
      · have hke : k = R.length := by omega
        subst hke
        have hO := hO.out
        have hB := hB.out
        rw [List.take_length] at hO
        rw [List.take_length]
        have kq := kg hB
        have bq := bt hB
        have up : ∀ {W W' : World}, Below W.heap.size W W' → W.cell? ⟨w4.heap.size, 0, none⟩ = some (.slice ua R.length uc) → W'.cell? ⟨w4.heap.size, 0, none⟩ = some (.slice ua R.length uc) := fun {W W'} hb h => (hb.cell (p := ⟨w4.heap.size, 0, none⟩) (lt_of_cellC h)).trans h
        obtain ⟨zs, hzl, hzm⟩ : ∃ zs : List Int, (ofG left R 0).length = zs.length ∧ (ofG left R 0).map intV = zs.map (Value.int .i64) := ⟨(ofG left R 0).map fun n : Nat => (n : Int), by simp, by rw [List.map_map]; rfl⟩
        have hz10 : zs.length ≤ 10 := by have := ofG_len left R 0; omega
        rw [hzm, hzl] at hO
        have HZM := hid' hzm; have HZL := hid' hzl
        clear hzm hzl
        go_wp2_with fail
        refine (hEm wq bq).mono ?_
        rintro e w5 ⟨g, out, rfl, hg, hOut, hol, hN, b5⟩
        have b5' := bq.trans (b5.mono bq.size)
        have k5 := up b5 kq
        have hO5 := (Chg.of_below b5).ownsRow' hO fun g e => by have := (hO.lt g e).2; omega
        have HN := hid' hN; have HOL := hid' hol
        have HRN := hid' hRn
        clear hN hol hRn
        go_wp2_with fail
        refine (hOf w5 b5').mono ?_
        rintro e w6 ⟨u6, rfl, hO6, b6⟩
        rw [HZM.out, HZL.out] at hO6
        have b6' := b5'.trans (b6.mono b5'.size)
        have k6 := up b6 k5
        have hO56 := (Chg.of_below b6).ownsRow' hO5 fun g e => by have := (hO5.lt g e).2; omega
        go_wp2_with fail
        refine (equal_own hO6 hO56 (by omega)).mono ?_
        rintro e w7 ⟨rfl, b7⟩
        have b7' := b6'.trans (b7.mono b6'.size)
        have k7 := up b7 k6
        have hol := HOL.out
        have hOut7 : OutAt w7 g out := by
          have h6 : OutAt w6 g out := (Chg.of_below b6).ownsRow' hOut fun q e h => by cases e; have h : w5.heap.size ≤ g := h; have := (hOut.lt g rfl).2; omega
          exact (Chg.of_below b7).ownsRow' h6 fun q e h => by cases e; have h : w6.heap.size ≤ g := h; have := (h6.lt g rfl).2; omega
        have hge : Hid (g < w7.heap.size) := (hOut7.lt g rfl).2
        have hcell : Hid (∀ j, j < mostG R + 1 → w7.cell? ⟨g, j, none⟩ = some (.bool (nul R 5 j))) := fun j hj => by
          rw [outAt_cell hOut7 (j := j) (by omega)]
          have h1 : out[j]? = some out[j] := List.getElem?_eq_getElem (by omega)
          have h2 : (out[j] = true) ↔ nul R 5 j = true := by
            rw [HRN.out j, ← HN.out j, h1]
            simp
          congr 2
          exact Bool.eq_iff_iff.2 h2
        clear hOut7 hOut hIs hOf hEm hO hO5 hO6 hO56
        go_wp2
        go_loopw [58] (fun i W => ∃ k : Nat, k ≤ mostG R + 1 ∧ i = .int .i64 k ∧ Hid (Below w7.heap.size w7 W)) (fun i _ => mostG R + 1 - (valI i).toNat)
        case atStart => exact ⟨0, Nat.zero_le _, rfl, hid' (Below.refl _ _)⟩
        case round =>
          rename World => wr
          obtain ⟨k, hk, rfl, hBr⟩ := hrel
          have kr := up hBr.out k7
          have br := b7'.trans (hBr.out.mono b7'.size)
          by_cases hkn : k < mostG R + 1
          · have i1 : (k : Int) < (mostG R : Int) + 1 := by omega
            have cr : wr.cell? ⟨g, k, none⟩ = some (.bool (nul R 5 k)) := (hBr.out.cell (p := ⟨g, k, none⟩) hge.out).trans (hcell.out k hkn)
            have hEk := hEl k wr br
            generalize nul R 5 k = bn at hEk cr
            go_wp2_with fail
            refine hEk.mono ?_
            rintro e w9 ⟨rfl, b9⟩
            cases bn with
            | false =>
              go_wp2
              exact ⟨⟨k + 1, by omega, by go_num, hid' (hBr.out.trans (b9.mono hBr.out.size))⟩, by simp [valI]; omega⟩
            | true =>
              go_wp2
              exact ⟨⟨k + 1, by omega, by go_num, hid' (hBr.out.trans (b9.mono hBr.out.size))⟩, by simp [valI]; omega⟩
          · have hLG' := hLG wr br
            clear hEl
            go_wp2_with fail
            have bd : Below w4.heap.size w4 wr.drew := ⟨br.os, br.tape, br.output, br.size, br.block⟩
            have kd : wr.drew.cell? ⟨w4.heap.size, 0, none⟩ = some (.slice ua R.length uc) := kr
            go_region_with (first
              | (go_at_call 15; refine (hLL _ b9').mono ?_; rintro e w10 ⟨⟨bb, rfl, hbb⟩, b10⟩)
              | (go_at_call 11; refine (hLG wr.drew bd).mono ?_; rintro e w9 ⟨ba, rfl, hba, b9⟩; have b9' := bd.trans (b9.mono bd.size); have k9 := up b9 kd))
            all_goals (
              have b10' := hbl b4' (b9'.trans (b10.mono b9'.size))
              have hab : ba = bb := Bool.eq_iff_iff.2 (hba.trans hbb.symm)
              subst hab
              clear hba hbb
              cases ba <;> go_wp2 <;> exact bodyPost_ret (results_tmp rfl _ _ _) rfl ⟨rfl, b10'⟩)
end Go.Proofs.YtddeekefomhbmaaGreatDoor
