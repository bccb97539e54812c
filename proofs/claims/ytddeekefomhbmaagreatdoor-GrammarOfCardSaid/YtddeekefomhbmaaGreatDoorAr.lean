/- What may be nothing, by the document's own words. No condition. -/
import Derived.Test.YtddeekefomhbmaaGreatDoorAp
import Derived.Test.YtddeekefomhbmaaGreatDoorSl
namespace Go.Proofs.YtddeekefomhbmaaGreatDoor
open Go Go.RowKit Go.Shelf
attribute [local go_sem] Oper.semAt_some

/-- A grammar's rules lie there in every world behind. -/
def LiesG (w : World) (a : Option Addr) (c : Nat) (R : List GRule) : Prop := ∀ W, Below w.heap.size w W → IsG W (.slice a R.length c) R
theorem LiesG.of {w : World} {a : Option Addr} {c : Nat} {R : List GRule} (h : IsG w (.slice a R.length c) R) : LiesG w a c R := fun _ hW => isG_below h hW
theorem LiesG.at {w W : World} {a : Option Addr} {c : Nat} {R : List GRule} (h : LiesG w a c R) (hB : Below w.heap.size w W) : LiesG W a c R := fun _ hW => h _ (hB.trans (hW.mono hB.size))
theorem LiesG.rule {w : World} {a : Option Addr} {c : Nat} {R : List GRule} (h : LiesG w a c R) {k : Nat} {r : GRule} (hr : R[k]? = some r) : ∃ b, a = some ⟨b, 0, none⟩ ∧ ∃ sx sc t, (∀ W, Below w.heap.size w W → W.cell? ⟨b, k * 3, none⟩ = some (.int .i64 (r.1 : Int)) ∧ W.cell? ⟨b, k * 3 + 1, none⟩ = some (.slice sx r.2.length sc) ∧ W.cell? ⟨b, k * 3 + 2, none⟩ = some (.int .i64 t)) ∧
    ∀ (j : Nat) y, r.2[j]? = some y → ∃ b2, sx = some ⟨b2, 0, none⟩ ∧ ∀ W, Below w.heap.size w W → SymAt W b2 (j * 3) y := by
  rcases h w (Below.refl _ _) with ⟨_, e⟩ | ⟨b, c', e, h0⟩
  · rw [e] at hr; simp at hr
  · have e : a = some ⟨b, 0, none⟩ := by injection e
    obtain ⟨s, t, ⟨h1, h2, h3⟩, h4⟩ := h0 k r hr
    obtain ⟨sx, sc, rfl⟩ := rowS_form h4
    have keep : ∀ {W : World}, Below w.heap.size w W → ∀ {bb o v}, w.cell? ⟨bb, o, none⟩ = some v → W.cell? ⟨bb, o, none⟩ = some v := fun {W} hc {bb o v} h => (hc.cell (p := ⟨bb, o, none⟩) (lt_of_cellC h)).trans h
    refine ⟨b, e, sx, sc, t, fun W hW => ⟨keep hW h1, keep hW h2, keep hW h3⟩, fun j y hy => ?_⟩
    rcases h4 with ⟨_, e⟩ | ⟨b2, c2, e, h5⟩
    · rw [e] at hy; simp at hy
    · refine ⟨b2, by injection e, fun W hW => ?_⟩
      have := h5 j y hy
      cases y with
      | none => obtain ⟨p, q, a1, a2, a3⟩ := this; exact ⟨p, q, keep hW a1, keep hW a2, keep hW a3⟩
      | some z => obtain ⟨p, a1, a2, a3⟩ := this; exact ⟨p, keep hW a1, keep hW a2, keep hW a3⟩

set_option maxRecDepth 100000 in
set_option maxHeartbeats 4000000 in
theorem emptyL_calls (R : List GRule) (hlen : R.length ≤ 100) (hrl : ∀ r ∈ R, r.2.length ≤ 100) : ∀ (d n : Nat) (a : Option Addr) (c : Nat) (w : World), d ≤ 100 → LiesG w a c R →
    Calls Tryz.prog 14 #[.agg #[.slice a R.length c], .int .i64 (n : Int), .int .i64 (d : Int)] w fun e w' => e = .returned (.bool (nul R d n)) ∧ Below w.heap.size w w' := by
  have t330 := Tryz.underlying27; have a330 := Tryz.isAgg27; have z330 := Tryz.sizeOf27; have u330 := run_underlying Tryz.underlying27
  have t402 := Tryz.underlying39; have a402 := Tryz.isAgg39; have z402 := Tryz.sizeOf39; have u402 := run_underlying Tryz.underlying39
  have t404 := Tryz.underlying66; have a404 := Tryz.isAgg66; have z404 := Tryz.sizeOf66; have u404 := run_underlying Tryz.underlying66
  intro d
  induction d with
  | zero =>
    intro n a c w hd hG
    go_enter Tryz.func14, Tryz.ntmps14
    go_wp2
    exact bodyPost_ret (results_tmp rfl _ _ _) rfl ⟨rfl, (Below.refl _ w).alloc (Nat.le_refl _) _⟩
  | succ d ih =>
    intro n a c w hd hG
    generalize hD : ((d + 1 : Nat) : Int) = D
    have d1 : (D == 0) = false := by
      cases h : (D == 0) with
      | false => rfl
      | true => have : D = 0 := by simpa using h
                omega
    have d2 : D - 1 = (d : Int) := by omega
    have d3 : D ≤ 101 := by omega
    have d4 : 1 ≤ D := by omega
    clear hD
    have hih : ∀ (m : Nat) (W : World), Below w.heap.size w W → Calls Tryz.prog 14 #[.agg #[.slice a R.length c], .int .i64 (m : Int), .int .i64 (d : Int)] W fun e w' => e = .returned (.bool (nul R d m)) ∧ Below W.heap.size W w' := fun m W hW => ih m a c W (by omega) (hG.at hW)
    clear ih
    have bx : Below w.heap.size w (w.alloc (.cells #[.slice a R.length c] 27)) := (Below.refl _ w).alloc (Nat.le_refl _) _
    have kx : Boxed (w.alloc (.cells #[.slice a R.length c] 27)) w.heap.size 27 (.slice a R.length c) := Boxed.new w _ _
    go_enter Tryz.func14, Tryz.ntmps14
    go_wp2
    generalize hW0 : w.alloc (.cells #[.slice a R.length c] 27) = W0 at bx kx
    clear hW0
    have bt : ∀ {W : World}, Below W0.heap.size W0 W → Below w.heap.size w W := fun h => bx.trans (h.mono bx.size)
    go_loopw [17] (fun i W => ∃ k : Nat, k ≤ R.length ∧ i = .int .i64 k ∧ Hid (∀ r ∈ R.take k, (Nat.beq r.1 n && r.2.all (symN (nul R d))) = false) ∧ Hid (Below W0.heap.size W0 W)) (fun i _ => R.length - (valI i).toNat)
    case atStart => exact ⟨0, Nat.zero_le _, rfl, hid' (fun r hr => by simp at hr), hid' (Below.refl _ _)⟩
    case round =>
      rename World => wq
      obtain ⟨k, hk, rfl, hN, hB⟩ := hrel
      by_cases hkn : k < R.length
      · obtain ⟨r, hr⟩ : ∃ r, R[k]? = some r := ⟨_, List.getElem?_eq_getElem hkn⟩
        obtain ⟨b, rfl, sx, sc, t, hcell, hsym⟩ := hG.rule hr
        obtain ⟨c1, c2, c3⟩ := hcell wq (bt hB.out)
        have hrl' : r.2.length ≤ 100 := hrl r (List.mem_of_getElem? hr)
        have k1 : (k : Int) < (R.length : Int) := by omega
        have hbeq : Nat.beq r.1 n = ((r.1 : Int) == (n : Int)) := by
          cases h : Nat.beq r.1 n with
          | true =>
            have := Nat.eq_of_beq_eq_true h
            subst this
            simp
          | false =>
            cases h2 : ((r.1 : Int) == (n : Int)) with
            | false => rfl
            | true =>
              have h3 : (r.1 : Int) = (n : Int) := by simpa using h2
              have : r.1 = n := by omega
              rw [this, Nat.beq_refl] at h; cases h
        have HBEQ := hid' hbeq
        clear hbeq
        go_wp2
        obtain ⟨W1, hW1⟩ : ∃ W1, (wq.alloc (.cells #[.int .i64 (r.1 : Int), .slice sx r.2.length sc, .int .i64 t] 39)) = W1 := ⟨_, rfl⟩
        rw [hW1]
        have b1 : Below W0.heap.size W0 W1 := by rw [← hW1]; exact hB.out.alloc hB.out.size _
        clear hW1
        generalize ((r.1 : Int) == (n : Int)) = B0 at HBEQ
        go_loopw [9, 28] (fun al j W => ∃ q : Nat, q ≤ r.2.length ∧ j = .int .i64 q ∧ al = .bool (B0 && (r.2.take q).all (symN (nul R d))) ∧ Hid (Below W0.heap.size W0 W)) (fun _ j _ => r.2.length - (valI j).toNat)
        case atStart => exact ⟨0, Nat.zero_le _, rfl, by simp, hid' b1⟩
        case round =>
          rename World => wz
          obtain ⟨q, hq, rfl, rfl, hB2⟩ := hrel
          by_cases hqn : q < r.2.length
          · obtain ⟨y, hy⟩ : ∃ y, r.2[q]? = some y := ⟨_, List.getElem?_eq_getElem hqn⟩
            obtain ⟨b2, rfl, hsy⟩ := hsym q y hy
            have hsy := hsy wz (bt hB2.out)
            have q1 : (q : Int) < (r.2.length : Int) := by omega
            have htk : (B0 && (r.2.take (q + 1)).all (symN (nul R d))) = ((B0 && (r.2.take q).all (symN (nul R d))) && symN (nul R d) y) := by
              rw [List.take_add_one, hy, List.all_append]
              simp [Bool.and_assoc]
            generalize (B0 && (r.2.take q).all (symN (nul R d))) = B at htk
            have FIN : Hid (∀ W', Below W0.heap.size W0 W' → ∀ al, al = (B && symN (nul R d) y) → (∃ q' : Nat, q' ≤ r.2.length ∧ Value.int .i64 ((q : Int) + 1) = .int .i64 q' ∧ Value.bool al = .bool (B0 && (r.2.take q').all (symN (nul R d))) ∧ Hid (Below W0.heap.size W0 W')) ∧ r.2.length - (valI (.int .i64 ((q : Int) + 1))).toNat < r.2.length - (valI (.int .i64 (q : Int))).toNat) := hid' fun W' hW' al hal =>
              ⟨⟨q + 1, by omega, by go_num, by rw [htk, hal], hid' hW'⟩, by simp [valI]; omega⟩
            clear htk
            cases y with
            | none =>
              obtain ⟨c', d', s1, s2, s3⟩ := hsy
              cases B with
              | false =>
                go_wp2
                exact FIN.out _ (hB2.out.alloc hB2.out.size _) false rfl
              | true =>
                go_wp2
                exact FIN.out _ (hB2.out.alloc hB2.out.size _) false rfl
            | some z =>
              obtain ⟨c', s1, s2, s3⟩ := hsy
              cases B with
              | false =>
                go_wp2
                exact FIN.out _ (hB2.out.alloc hB2.out.size _) false rfl
              | true =>
                have kz : (wz.alloc (.cells #[.bool false, .int .i64 c', .int .i64 (z : Int)] 66)).cell? ⟨w.heap.size, 0, none⟩ = some (.slice (some ⟨b, 0, none⟩) R.length c) := by
                  have h1 := hB2.out.cell (p := ⟨w.heap.size, 0, none⟩) kx.lt
                  have h2 := h1.trans kx.cell
                  exact (World.cell?_of_block (Below.heap_alloc _ _ _ (lt_of_cellC h2))).trans h2
                have ba := hB2.out.alloc hB2.out.size (.cells #[.bool false, .int .i64 c', .int .i64 (z : Int)] 66)
                go_wp2_with fail
                refine (hih z _ (bt ba)).mono ?_
                rintro e w5 ⟨rfl, b5⟩
                have hsz : symN (nul R d) (some z) = nul R d z := rfl
                rw [Bool.true_and, hsz] at FIN
                generalize nul R d z = bz at FIN
                go_wp2
                exact FIN.out _ (ba.trans (b5.mono ba.size)) bz rfl
          · have hqe : q = r.2.length := by omega
            have HT : Hid (r.2.take q = r.2) := hid' (List.take_of_length_le (by omega))
            rw [HT.out]
            have hval : Hid ((Nat.beq r.1 n && r.2.all (symN (nul R d))) = (B0 && r.2.all (symN (nul R d)))) := hid' (by rw [HBEQ.out])
            clear hqe
            generalize (B0 && r.2.all (symN (nul R d))) = B at hval
            cases B with
            | false =>
              go_wp2
              refine ⟨⟨k + 1, by omega, by go_num, hid' fun r' hr' => ?_, hid' hB2.out⟩, by simp [valI]; omega⟩
              rw [List.take_add_one, hr] at hr'
              rcases List.mem_append.1 hr' with h | h
              · exact hN.out r' h
              · have : r' = r := by simpa using h
                rw [this]; exact hval.out
            | true =>
              have hnul : nul R (d + 1) n = true := by
                rw [nul_eq, List.any_eq_true]
                exact ⟨r, List.mem_of_getElem? hr, hval.out⟩
              have HNUL := hid' hnul
              clear hnul
              go_wp2
              exact bodyPost_ret (results_tmp rfl _ _ _) rfl ⟨by rw [HNUL.out]; rfl, bt hB2.out⟩
      · have hnul : nul R (d + 1) n = false := by
          have h := hN.out
          rw [List.take_of_length_le (by omega)] at h
          rw [nul_eq]
          cases h2 : R.any (fun r => Nat.beq r.1 n && r.2.all (symN (nul R d))) with
          | false => rfl
          | true =>
            obtain ⟨r, hr, h3⟩ := List.any_eq_true.1 h2
            have h4 := h r hr
            rw [h3] at h4; cases h4
        have HNUL := hid' hnul
        clear hnul
        go_wp2
        exact bodyPost_ret (results_tmp rfl _ _ _) rfl ⟨by rw [HNUL.out]; rfl, bt hB.out⟩
end Go.Proofs.YtddeekefomhbmaaGreatDoor
