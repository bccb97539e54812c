/- Does it loop? By the document's own words. No condition. -/
import Derived.Test.YtddeekefomhbmaaGreatDoorAs
namespace Go.Proofs.YtddeekefomhbmaaGreatDoor
open Go Go.RowKit Go.Shelf Go.Lib
attribute [local go_sem] Oper.semAt_some

/-- 'slices.Contains'. -/
theorem contains_own {w : World} {base : Nat} {v : Value} {zs : List Int} (h : w.ownsRow base 3 1 v zs.length (zs.map (Value.int .i64))) (hl : zs.length ≤ 100000) (x : Int) :
    Calls Tryz.prog 28 #[v, .int .i64 x] w fun e w' => (∃ b, e = .returned (.bool b) ∧ (b = true ↔ x ∈ zs)) ∧ Below w.heap.size w w' := by
  rcases own_cell1 h with ⟨rfl, hz, _⟩ | ⟨g, cap, rfl, _, _, hc⟩
  · have hz : zs = [] := List.eq_nil_of_length_eq_zero hz
    subst hz
    refine (Tryz.slices_Contains_empty_f28 (α := Int) none 0 (.int .i64 x) w).mono ?_
    rintro e w' ⟨rfl, rfl⟩
    exact ⟨⟨false, rfl, by simp⟩, Below.refl _ _⟩
  · refine (Tryz.slices_Contains_f28 (Value.int .i64) _ (EqlAt.int Tryz.prog 3 .i64) g 0 zs.length cap zs x w (Nat.le_refl _) (by omega) (fun j hj => ?_)).mono ?_
    · rw [Nat.zero_add]
      refine hc j _ ?_
      rw [List.getElem?_map, List.getElem?_eq_getElem hj]
      simp [List.getElem!_eq_getElem?_getD, List.getElem?_eq_getElem hj]
    · rintro e w' ⟨rfl, rfl⟩
      refine ⟨⟨_, rfl, ?_⟩, Below.refl _ _⟩
      rw [List.take_length]
      simp
set_option maxRecDepth 100000 in
set_option maxHeartbeats 4000000 in
theorem loopsL_calls (gs : List (Nat × List Nat)) (hlen : gs.length ≤ 10) (hrl : ∀ r ∈ makeG gs, r.2.length ≤ 4) (hlt : ∀ r ∈ makeG gs, ∀ k, some k ∈ r.2 → k < 4) (a : Option Addr) (c : Nat) (w : World) (hG : LiesG w a c (makeG gs)) :
    Calls Tryz.prog 15 #[.agg #[.slice a (makeG gs).length c]] w fun e w' => (∃ b, e = .returned (.bool b) ∧ (b = true ↔ Loopy (makeG gs))) ∧ Below w.heap.size w w' := by
  have t330 := Tryz.underlying27; have a330 := Tryz.isAgg27; have z330 := Tryz.sizeOf27; have u330 := run_underlying Tryz.underlying27
  have hA : ∀ (n : Nat) (W : World), Below w.heap.size w W → Calls Tryz.prog 29 #[.agg #[.slice a (makeG gs).length c], .int .i64 (n : Int), .int .i64 4] W fun e w' => ∃ v, e = .returned v ∧ AloneAt W w' (makeG gs) 4 n v ∧ Below W.heap.size W w' := fun n W hW =>
    alone_calls (makeG gs) (by rw [makeG_len]; exact hlen) hrl hlt (fun k => nul_iff.symm) 4 n a c W (by omega) (hG.at hW)
  have bx : Below w.heap.size w (w.alloc (.cells #[.slice a (makeG gs).length c] 27)) := (Below.refl _ w).alloc (Nat.le_refl _) _
  have kx : Boxed (w.alloc (.cells #[.slice a (makeG gs).length c] 27)) w.heap.size 27 (.slice a (makeG gs).length c) := Boxed.new w _ _
  have hlo : Hid (Loopy (makeG gs) ↔ ∃ n, n < 4 ∧ Ahd (makeG gs) 4 n n) := hid' loopy_iff
  go_enter Tryz.func15, Tryz.ntmps15
  go_wp2
  generalize hW0 : w.alloc (.cells #[.slice a (makeG gs).length c] 27) = W0 at bx kx ⊢
  have bt : ∀ {W : World}, Below W0.heap.size W0 W → Below w.heap.size w W := fun h => bx.trans (h.mono bx.size)
  have kg : ∀ {W : World}, Below W0.heap.size W0 W → W.cell? ⟨w.heap.size, 0, none⟩ = some (.slice a (makeG gs).length c) := fun {W} h => (h.cell (p := ⟨w.heap.size, 0, none⟩) kx.lt).trans kx.cell
  clear hW0
  go_loopw [4] (fun i W => ∃ k : Nat, k ≤ 4 ∧ i = .int .i64 k ∧ Hid (∀ n, n < k → ¬ Ahd (makeG gs) 4 n n) ∧ Hid (Below W0.heap.size W0 W)) (fun i _ => 4 - (valI i).toNat)
  case atStart => exact ⟨0, Nat.zero_le _, rfl, hid' (fun n hn => by omega), hid' (Below.refl _ _)⟩
  case round =>
    rename World => wz
    obtain ⟨k, hk, rfl, hN, hB⟩ := hrel
    by_cases hk4 : k < 4
    · have k1 : (k : Int) < 4 := by omega
      have kz := kg hB.out
      go_wp2_with fail
      refine (hA k wz (bt hB.out)).mono ?_
      rintro e w5 ⟨v5, rfl, ⟨zs, hO5, hl5, h5b, h5m⟩, b5⟩
      have b5' := hB.out.trans (b5.mono hB.out.size)
      go_wp2_with fail
      refine (contains_own hO5 (by omega) k).mono ?_
      rintro e w6 ⟨⟨b, rfl, hb⟩, b6⟩
      have b6' := b5'.trans (b6.mono b5'.size)
      rw [h5m k] at hb
      cases b with
      | true =>
        have hx := hb.1 (by trivial)
        go_wp2
        exact bodyPost_ret (results_tmp rfl _ _ _) rfl ⟨⟨true, rfl, by rw [hlo.out]; exact ⟨fun _ => ⟨k, hk4, hx⟩, fun _ => rfl⟩⟩, bt b6'⟩
      | false =>
        go_wp2
        refine ⟨⟨k + 1, by omega, by go_num, hid' fun n hn => ?_, hid' b6'⟩, by simp [valI]; omega⟩
        rcases Nat.lt_or_ge n k with h | h
        · exact hN.out n h
        · obtain rfl : n = k := by omega
          exact fun h' => by cases hb.2 h'
    · have hk : k = 4 := by omega
      subst hk
      go_wp2
      exact bodyPost_ret (results_tmp rfl _ _ _) rfl ⟨⟨false, rfl, by rw [hlo.out]; exact ⟨fun h => (by cases h), fun ⟨n, h1, h2⟩ => absurd h2 (hN.out n h1)⟩⟩, bt hB.out⟩
end Go.Proofs.YtddeekefomhbmaaGreatDoor
