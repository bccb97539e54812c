/- The places of a left side's rules. No condition. -/
import Derived.Test.YtddeekefomhbmaaGreatDoorAd
namespace Go.Proofs.YtddeekefomhbmaaGreatDoor
open Go Go.RowKit Go.Shelf
attribute [local go_sem] Oper.semAt_some

/-- The places of a left side's rules. -/
def ofG (left : Int) : List GRule → Nat → List Nat
  | [], _ => []
  | r :: l, i => if (r.1 : Int) = left then i :: ofG left l (i + 1) else ofG left l (i + 1)
theorem ofG_snoc (left : Int) (r : GRule) : ∀ (l : List GRule) (i : Nat), ofG left (l ++ [r]) i = ofG left l i ++ (if (r.1 : Int) = left then [i + l.length] else [])
  | [], i => by simp only [List.nil_append, ofG]; split <;> simp
  | a :: l, i => by
    have ih := ofG_snoc left r l (i + 1)
    simp only [List.cons_append, ofG, ih, List.length_cons]
    have e : i + 1 + l.length = i + (l.length + 1) := by omega
    rw [e]
    split <;> simp
theorem ofG_len (left : Int) : ∀ (l : List GRule) (i : Nat), (ofG left l i).length ≤ l.length
  | [], _ => Nat.le_refl _
  | a :: l, i => by
    have := ofG_len left l (i + 1)
    unfold ofG
    split <;> simp only [List.length_cons] <;> omega
theorem info3 : (Tryz.prog.info? 3).map (fun i => (i.zero, i.size, i.bytes)) = some (some (.int .i64 0), 1, 8) := by kernel_rfl
def intV (n : Nat) : Value := .int .i64 (n : Int)

set_option maxRecDepth 100000 in
set_option maxHeartbeats 2000000 in
theorem of_calls (v : Value) (R : List GRule) (left : Int) (w : World) (hG : ∀ W, Below w.heap.size w W → IsG W v R) (hlen : R.length ≤ 100) :
    Calls Tryz.prog 13 #[.agg #[v], .int .i64 left] w fun e w' => ∃ u, e = .returned u ∧ w'.ownsRow w.heap.size 3 1 u (ofG left R 0).length ((ofG left R 0).map intV) ∧ Below w.heap.size w w' := by
  obtain ⟨a, c, rfl, hrow⟩ := isG_rows hG
  have t330 := Tryz.underlying27; have a330 := Tryz.isAgg27; have z330 := Tryz.sizeOf27; have u330 := run_underlying Tryz.underlying27
  have t402 := Tryz.underlying39; have a402 := Tryz.isAgg39; have z402 := Tryz.sizeOf39; have u402 := run_underlying Tryz.underlying39
  obtain ⟨i0, hi, hz0, hz1, hz2⟩ := info_parts info3
  refine (callsIn_wide (n := 10)).1 ?_
  refine callsIn_of_wp Tryz.func13 rfl trivial ?_ rfl
  simp only [Tryz.ntmps13, List.size_toArray, List.length_cons, List.length_nil, Nat.reduceAdd, Nat.reduceSub, Array.replicate_succ, Array.replicate_zero, List.push_toArray, List.append_toArray, List.nil_append, List.cons_append]
  gi_wp2
  have hbox : ∀ W, Below (w.heap.size + 1) (w.alloc (.cells #[.slice a R.length c] 27)) W → W.cell? ⟨w.heap.size, 0, none⟩ = some (.slice a R.length c) := fun W hW => by
    rw [hW.cell (p := ⟨w.heap.size, 0, none⟩) (by show w.heap.size < _; omega)]
    exact (Boxed.new w 27 _).cell
  gi_loopw [5, 11] (fun u i wr => ∃ k : Nat, k ≤ R.length ∧ i = .int .i64 k ∧ Hid (wr.ownsRow (w.heap.size + 1) 3 1 u (ofG left (R.take k) 0).length ((ofG left (R.take k) 0).map intV)) ∧ Hid (Below (w.heap.size + 1) (w.alloc (.cells #[.slice a R.length c] 27)) wr)) (fun _ i _ => R.length - (intOf i).toNat)
  case atStart => exact ⟨0, Nat.zero_le _, rfl, hid' (World.ownsRow_nil _ _ _ _), hid' (Below.refl _ _)⟩
  case round =>
    rename World => wq
    obtain ⟨k, hk, rfl, hO, hB⟩ := hrel
    have hBn : w.heap.size + 1 ≤ wq.heap.size := by have := hB.out.size; simp at this; omega
    have hBw : Below w.heap.size w wq := ((Below.refl w.heap.size w).alloc (Nat.le_refl _) _).trans (Below.mono hB.out (by omega))
    by_cases hkn : k < R.length
    · obtain ⟨r, hr⟩ : ∃ r, R[k]? = some r := ⟨_, List.getElem?_eq_getElem hkn⟩
      obtain ⟨b, rfl, hb, hcells⟩ := hrow k r hr
      obtain ⟨s, t, ⟨c1, c2, c3⟩, hS⟩ := hcells wq hBw
      obtain ⟨sx, sc, rfl⟩ := rowS_form hS
      have hlt := ofG_len left (R.take k) 0
      rw [List.length_take] at hlt
      have htake : ofG left (R.take (k + 1)) 0 = ofG left (R.take k) 0 ++ (if (r.1 : Int) = left then [k] else []) := by
        rw [List.take_add_one, hr]
        show ofG left (R.take k ++ [r]) 0 = _
        rw [ofG_snoc, List.length_take, Nat.zero_add, Nat.min_eq_left (by omega)]
      have HB := hid' hBw
      clear hBw hS
      by_cases he : (r.1 : Int) = left
      · rw [if_pos he] at htake
        gi_wp2_with (gi_at_builtin; refine wpListIn_append_own_at _ rfl _ _ 36 rfl (w.heap.size + 1) 3 i0 (.int .i64 0) 1 8 Tryz.underlying36 hi hz0 hz1 hz2 rfl (by decide) _ _ _ rfl ((hO.out.alloc _).alloc _) ⟨wq.heap.size + 1, 0, none⟩ 1 1 [intV k] rfl rfl (by intro j u hj; have h := cell_one_new (wq.alloc (.cells #[.int .i64 left, .slice sx r.2.length sc, .int .i64 t] 39)) (intV k) 3 j u hj; rw [World.size_alloc] at h; exact h) (by simp [Value.oneCell', intV]) (by simp only [maxLen]; omega) (by omega) (by simp; omega) ?_; intro v' w3 hown' hgrow _ _)
        have hb3 : Below (w.heap.size + 1) wq w3 := (((Below.refl _ wq).alloc hBn _).alloc (by simp; omega) _).grown hgrow (by simp; omega) fun j ej => (hO.out.lt j ej).1
        exact ⟨⟨k + 1, by omega, by go_num, hid' (by rw [htake, List.map_append, List.length_append]; simpa using hown'), hid' (hB.out.trans hb3)⟩, by simp [intOf]; omega⟩
      · rw [if_neg he, List.append_nil] at htake
        gi_wp2
        exact ⟨⟨k + 1, by omega, by go_num, hid' (by rw [htake]; exact hO.out.alloc _), hid' (hB.out.alloc hBn _)⟩, by simp [intOf]; omega⟩
    · have hke : k = R.length := by omega
      subst hke
      gi_wp2
      refine bodyPost_ret (results_tmp rfl _ _ _) rfl ?_
      refine ⟨_, rfl, ?_, hBw⟩
      have h := hO.out
      rw [List.take_length] at h
      obtain ⟨h1, h2⟩ := h
      exact ⟨h1, h2.imp id fun ⟨g, cap, cur, e, hb, rest⟩ => ⟨g, cap, cur, e, by omega, rest⟩⟩
end Go.Proofs.YtddeekefomhbmaaGreatDoor
