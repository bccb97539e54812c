/- Rules of small numbers: their cells, copied; one row behind another. No condition. -/
import Derived.Test.YtddeekefomhbmaaGreatDoorAn
import Derived.Test.YtddeekefomhbmaaGreatDoorSk
import Derived.Laws.AppendOwnNone
namespace Go.Proofs.YtddeekefomhbmaaGreatDoor
open Go Go.RowKit Go.Shelf
attribute [local go_sem] Oper.semAt_some

def CellsG (W : World) (xs : List Value) (gs : List (Nat × List Nat)) : Prop := xs.length = gs.length * 2 ∧ (∀ u ∈ xs, u.oneCell' = true) ∧ ∀ (j : Nat) g, gs[j]? = some g → xs[j * 2]? = some (.int .u8 (g.1 : Int)) ∧ ∃ s, xs[j * 2 + 1]? = some s ∧ RowU W s g.2
theorem rowU_below {W W' : World} {v : Value} {zs : List Nat} (h : RowU W v zs) (hB : Below W.heap.size W W') : RowU W' v zs := by
  rcases h with h | ⟨b, o, c, rfl, h⟩
  · exact .inl h
  · exact .inr ⟨b, o, c, rfl, fun j z hj => (hB.cell (p := ⟨b, o + j, none⟩) (lt_of_cellC (h j z hj))).trans (h j z hj)⟩
theorem CellsG.below {W W' : World} {xs : List Value} {gs : List (Nat × List Nat)} (h : CellsG W xs gs) (hB : Below W.heap.size W W') : CellsG W' xs gs :=
  ⟨h.1, h.2.1, fun j g hj => by
    obtain ⟨h1, s, h2, h3⟩ := h.2.2 j g hj
    exact ⟨h1, s, h2, rowU_below h3 hB⟩⟩
theorem CellsG.nil (W : World) : CellsG W [] [] := ⟨rfl, fun _ h => (by cases h), fun j g h => by simp at h⟩
theorem CellsG.app {W : World} {xs ys : List Value} {gs ms : List (Nat × List Nat)} (h : CellsG W xs gs) (k : CellsG W ys ms) : CellsG W (xs ++ ys) (gs ++ ms) := by
  refine ⟨by rw [List.length_append, List.length_append, h.1, k.1]; omega, fun u hu => (List.mem_append.1 hu).elim (h.2.1 u) (k.2.1 u), fun j g hj => ?_⟩
  rcases Nat.lt_or_ge j gs.length with hl | hl
  · rw [List.getElem?_append_left hl] at hj
    obtain ⟨h1, s, h2, h3⟩ := h.2.2 j g hj
    exact ⟨by rw [List.getElem?_append_left (List.getElem?_eq_some_iff.1 h1).1]; exact h1, s, by rw [List.getElem?_append_left (List.getElem?_eq_some_iff.1 h2).1]; exact h2, h3⟩
  · rw [List.getElem?_append_right hl] at hj
    obtain ⟨h1, s, h2, h3⟩ := k.2.2 _ g hj
    have e := h.1
    exact ⟨by rw [List.getElem?_append_right (by omega), show j * 2 - xs.length = (j - gs.length) * 2 by omega]; exact h1, s, by rw [List.getElem?_append_right (by omega), show j * 2 + 1 - xs.length = (j - gs.length) * 2 + 1 by omega]; exact h2, h3⟩
theorem rowU_one {W : World} {v : Value} {zs : List Nat} (h : RowU W v zs) : v.oneCell' = true := by
  obtain ⟨a, c, rfl⟩ := rowU_form h; rfl
theorem rowG_cells {W : World} {a : Addr} {n c : Nat} {gs : List (Nat × List Nat)} (h : RowG W (.slice (some a) n c) gs) : n = gs.length ∧ ∃ xs, CellsG W xs gs ∧ ∀ j u, xs[j]? = some u → W.cell? (a.add j) = some u := by
  rcases h with ⟨a', c', e, rfl⟩ | ⟨b, o, c', e, h⟩
  · cases e
    exact ⟨rfl, [], CellsG.nil _, fun j u h => by simp at h⟩
  · cases e
    refine ⟨rfl, ?_⟩
    have key : ∀ k, k ≤ gs.length → ∃ xs, CellsG W xs (gs.take k) ∧ ∀ j u, xs[j]? = some u → W.cell? ⟨b, o + j, none⟩ = some u := by
      intro k
      induction k with
      | zero => exact fun _ => ⟨[], CellsG.nil _, fun j u h => by simp at h⟩
      | succ k ih =>
        intro hk
        obtain ⟨xs, h1, h2⟩ := ih (by omega)
        obtain ⟨g, hg⟩ : ∃ g, gs[k]? = some g := ⟨_, List.getElem?_eq_getElem (by omega)⟩
        obtain ⟨c1, s, c2, c3⟩ := h k g hg
        have hl : xs.length = k * 2 := by rw [h1.1, List.length_take, Nat.min_eq_left (by omega)]
        refine ⟨xs ++ [.int .u8 (g.1 : Int), s], ?_, fun j u hj => ?_⟩
        · rw [List.take_add_one, hg]
          refine h1.app ⟨rfl, fun u hu => ?_, fun j g' hj => ?_⟩
          · simp at hu
            rcases hu with rfl | rfl
            · rfl
            · exact rowU_one c3
          · match j, hj with
            | 0, hj =>
              have : g' = g := by simpa using hj.symm
              subst this
              exact ⟨rfl, s, rfl, c3⟩
            | j + 1, hj => simp at hj
        · rcases Nat.lt_or_ge j xs.length with h3 | h3
          · rw [List.getElem?_append_left h3] at hj
            exact h2 j u hj
          · rw [List.getElem?_append_right h3] at hj
            match hq : j - xs.length, hj with
            | 0, hj =>
              have : u = .int .u8 (g.1 : Int) := by simpa using hj.symm
              subst this
              rw [show j = 2 * k by omega]; exact c1
            | 1, hj =>
              have : u = s := by simpa using hj.symm
              subst this
              rw [show j = 2 * k + 1 by omega]; exact c2
            | q + 2, hj => simp at hj
    obtain ⟨xs, h1, h2⟩ := key gs.length (Nat.le_refl _)
    rw [List.take_length] at h1
    exact ⟨xs, h1, fun j u hj => by rw [Go.WideShapes.add_plain]; exact h2 j u hj⟩
theorem CellsG.rowG {W : World} {base : Nat} {e : TypeId} {v : Value} {gs : List (Nat × List Nat)} {xs : List Value} (h : CellsG W xs gs) (ho : W.ownsRow base e 2 v gs.length xs) : RowG W v gs := by
  obtain ⟨hl, h2 | ⟨g, cap, cur, rfl, h1, h2, h3, h4, h5, h6⟩⟩ := ho
  · exact .inl ⟨_, _, h2.1, List.eq_nil_of_length_eq_zero h2.2⟩
  · have hc : ∀ (j : Nat) u, xs[j]? = some u → W.cell? ⟨g, 0 + j, none⟩ = some u := fun j u hj => by
      rw [Nat.zero_add]
      rw [← h6, List.getElem?_take] at hj
      split at hj
      · simp only [World.cell?, h2]
        simpa using hj
      · cases hj
    refine .inr ⟨g, 0, cap, rfl, fun j y hj => ?_⟩
    obtain ⟨q1, s, q2, q3⟩ := h.2.2 j y hj
    exact ⟨by rw [Nat.mul_comm]; exact hc _ _ q1, s, by rw [Nat.mul_comm]; exact hc _ _ q2, q3⟩
theorem rowG_below {W W' : World} {v : Value} {gs : List (Nat × List Nat)} (h : RowG W v gs) (hB : Below W.heap.size W W') : RowG W' v gs := by
  rcases h with h | ⟨b, o, c, rfl, h⟩
  · exact .inl h
  · refine .inr ⟨b, o, c, rfl, fun j g hj => ?_⟩
    obtain ⟨h1, s, h2, h3⟩ := h j g hj
    exact ⟨(hB.cell (p := ⟨b, _, none⟩) (lt_of_cellC h1)).trans h1, s, (hB.cell (p := ⟨b, _, none⟩) (lt_of_cellC h2)).trans h2, rowU_below h3 hB⟩
theorem isG_below {W W' : World} {v : Value} {R : List GRule} (h : IsG W v R) (hB : Below W.heap.size W W') : IsG W' v R := by
  rcases h with h | ⟨b, c, rfl, h⟩
  · exact .inl h
  · refine .inr ⟨b, c, rfl, fun j r hj => ?_⟩
    obtain ⟨s, t, ⟨h1, h2, h3⟩, h4⟩ := h j r hj
    have k : ∀ {b o v}, W.cell? ⟨b, o, none⟩ = some v → W'.cell? ⟨b, o, none⟩ = some v := fun {b o v} h => (hB.cell (p := ⟨b, o, none⟩) (lt_of_cellC h)).trans h
    refine ⟨s, t, ⟨k h1, k h2, k h3⟩, ?_⟩
    rcases h4 with h4 | ⟨b', c', rfl, h4⟩
    · exact .inl h4
    · refine .inr ⟨b', c', rfl, fun j x hj => ?_⟩
      have := h4 j x hj
      cases x with
      | none => obtain ⟨p, q, a1, a2, a3⟩ := this; exact ⟨p, q, k a1, k a2, k a3⟩
      | some z => obtain ⟨p, a1, a2, a3⟩ := this; exact ⟨p, k a1, k a2, k a3⟩

theorem infoG : (Tryz.prog.info? 32).map (fun i => (i.zero, i.size, i.bytes)) = some (some (.agg #[.int .u8 0, .slice none 0 0]), 2, 32) := by kernel_rfl

set_option maxRecDepth 100000 in
set_option maxHeartbeats 2000000 in
/-- 'slices.Clone' of rules of small numbers. -/
theorem clone_calls {v : Value} {gs : List (Nat × List Nat)} {w : World} (hv : v = .slice none 0 0 ∨ ∃ a n c, v = .slice (some a) n c) (hG : RowG w v gs) (hl : gs.length ≤ 10) :
    Calls Tryz.prog 9 #[v] w fun e w' => ∃ v' xs, e = .returned v' ∧ w'.ownsRow w.heap.size 32 2 v' gs.length xs ∧ CellsG w xs gs ∧ Below w.heap.size w w' := by
  obtain ⟨iG, hi, hz0, hz1, hz2⟩ := info_parts infoG
  rcases hv with rfl | ⟨a, n, c, rfl⟩
  · refine (AnyE.slices_Clone_nil Tryz.cloneG 0 0 w).mono ?_
    rintro e w' ⟨rfl, rfl⟩
    obtain rfl : gs = [] := by
      obtain ⟨a, c, e⟩ := rowG_form hG
      have : 0 = gs.length := by injection e
      exact List.eq_nil_of_length_eq_zero this.symm
    exact ⟨_, [], rfl, World.ownsRow_nil _ _ _ _, CellsG.nil _, Below.refl _ _⟩
  · obtain ⟨rfl, xs, hx, hc⟩ := rowG_cells hG
    have hm1 : gs.length ≤ maxLen := by unfold maxLen; omega
    go_enter Tryz.func9, Tryz.ntmps9
    have q22 : ∀ (w : World) (a : Option Addr) (n c n' c' : Nat), (binOp .eql 22 (.slice a n c) (.slice none n' c')).run Tryz.prog w = .ok (.bool a.isNone) w := fun w a n c n' c' => Lib.run_eql_slice_nil w _ _ a n c n' c' Tryz.underlying22
    have hcW : ∀ j u, xs[j]? = some u → (w.alloc (.cells #[] 32)).cell? (a.add j) = some u := fun j u hj => (World.cell?_of_block (Below.heap_alloc _ _ _ (lt_of_cellC (hc j u hj)))).trans (hc j u hj)
    have hown0 : (w.alloc (.cells #[] 32)).ownsRow w.heap.size 32 2 (.slice (some ⟨w.heap.size, 0, none⟩) 0 0) 0 [] := World.ownsRow_made w #[] 0 (Nat.le_refl _) (Nat.zero_le _) (by simp)
    go_wp2_with (at_builtin; refine wpList_append_own _ rfl _ _ 22 rfl w.heap.size 32 iG (.agg #[.int .u8 0, .slice none 0 0]) 2 32 Tryz.underlying22 hi hz0 hz1 hz2 rfl (by decide) _ 0 [] rfl hown0 a gs.length c xs rfl hx.1 hcW hx.2.1 (by omega) (by omega) (by simp) ?_; intro v' w3 hown' hgrow _)
    have hb3 : Below w.heap.size w w3 := ((Below.refl _ w).alloc (Nat.le_refl _) _).grown hgrow (by simp) fun j e => by injection e with e; have e : w.heap.size = j := e; omega
    rw [Nat.zero_add, List.nil_append] at hown'
    exact bodyPost_ret (results_tmp rfl _ _ _) rfl ⟨v', xs, rfl, hown', hx, hb3⟩
end Go.Proofs.YtddeekefomhbmaaGreatDoor
