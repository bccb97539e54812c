/- Rows of numbers: sorted, each once. No condition. -/
import Derived.Test.YtddeekefomhbmaaGreatDoorAr
import Derived.Lib.SlKeysI
import Derived.Lib.SlicesCompact
import Derived.Laws.AppendOwnNone
namespace Go.Proofs.YtddeekefomhbmaaGreatDoor
open Go Go.RowKit Go.Shelf Go.Lib Go.Sort

theorem compact_mem {zs : List Int} {x : Int} : x ∈ Lib.compact zs ↔ x ∈ zs := by
  have get : ∀ j, j < zs.length → zs.toArray[j]! = zs[j]! := fun j _ => by simp
  unfold Lib.compact compactUpTo
  rw [List.mem_map]
  constructor
  · rintro ⟨j, hj, rfl⟩
    have hj := List.mem_range.1 (List.mem_filter.1 hj).1
    rw [get j hj]
    simp only [List.getElem!_eq_getElem?_getD, List.getElem?_eq_getElem hj, Option.getD_some]
    exact List.getElem_mem hj
  · intro hx
    obtain ⟨j, hj⟩ := List.getElem?_of_mem hx
    obtain ⟨hjl, hjx⟩ := List.getElem?_eq_some_iff.1 hj
    have key : ∀ j, (hj : j < zs.length) → ∃ i, i ∈ (List.range zs.length).filter (keeps zs.toArray) ∧ zs.toArray[i]! = zs[j] := by
      intro j
      induction j with
      | zero =>
        intro h
        refine ⟨0, List.mem_filter.2 ⟨List.mem_range.2 h, by simp [keeps]⟩, ?_⟩
        simp [h]
      | succ j ih =>
        intro h
        by_cases hk : keeps zs.toArray (j + 1) = true
        · exact ⟨j + 1, List.mem_filter.2 ⟨List.mem_range.2 h, hk⟩, by simp [h]⟩
        · obtain ⟨i, h1, h2⟩ := ih (by omega)
          refine ⟨i, h1, h2.trans ?_⟩
          have : zs.toArray[j + 1]! = zs.toArray[j]! := by
            by_cases e : zs.toArray[j + 1]! = zs.toArray[j]!
            · exact e
            · exact absurd (keeps_pos (m := j + 1) (by simpa using e)) hk
          have g1 : zs.toArray[j + 1]! = zs[j + 1] := by simp [h]
          have g2 : zs.toArray[j]! = zs[j]'(by omega) := by simp [show j < zs.length by omega]
          rw [g1, g2] at this
          exact this.symm
    obtain ⟨i, h1, h2⟩ := key j hjl
    exact ⟨i, h1, h2.trans hjx⟩
theorem compact_rising {zs : List Int} (h : zs.Pairwise (· ≤ ·)) : (Lib.compact zs).Pairwise (· < ·) := by
  unfold Lib.compact compactUpTo
  refine List.pairwise_map.2 ?_
  have hlt : ((List.range zs.length).filter (keeps zs.toArray)).Pairwise (· < ·) := List.pairwise_lt_range.filter _
  refine hlt.imp_of_mem fun {i j} hi hj hij => ?_
  obtain ⟨hi, _⟩ := List.mem_filter.1 hi
  obtain ⟨hj, hk⟩ := List.mem_filter.1 hj
  have hi := List.mem_range.1 hi
  have hj := List.mem_range.1 hj
  have mono : ∀ a b, (hab : a ≤ b) → (hb : b < zs.length) → zs[a]'(by omega) ≤ zs[b] := fun a b hab hb => by
    rcases Nat.lt_or_ge a b with h1 | h1
    · exact List.pairwise_iff_getElem.1 h a b (by omega) hb h1
    · obtain rfl : a = b := by omega
      exact Int.le_refl _
  have hne : zs.toArray[j]! ≠ zs.toArray[j - 1]! := fun e => by
    rw [keeps_neg (by omega) e] at hk; cases hk
  have g1 : zs.toArray[j]! = zs[j] := by simp [hj]
  have g2 : zs.toArray[j - 1]! = zs[j - 1]'(by omega) := by simp [show j - 1 < zs.length by omega]
  have g3 : zs.toArray[i]! = zs[i] := by simp [hi]
  rw [g1, g2] at hne
  rw [g1, g3]
  have m1 := mono i (j - 1) (by omega) (by omega)
  have m2 := mono (j - 1) j (by omega) hj
  omega
theorem sorted_rising (zs : List Int) : (zs.mergeSort fun x y => decide (x ≤ y)).Pairwise (· ≤ ·) := by
  have tr : ∀ a b c : Int, decide (a ≤ b) = true → decide (b ≤ c) = true → decide (a ≤ c) = true := fun a b c h1 h2 => by simp only [decide_eq_true_eq] at *; omega
  have to : ∀ a b : Int, (decide (a ≤ b) || decide (b ≤ a)) = true := fun a b => by simp only [Bool.or_eq_true, decide_eq_true_eq]; omega
  exact (List.pairwise_mergeSort tr to zs).imp fun {a b} h => by simpa using h
theorem sorted_mem {zs : List Int} {x : Int} : x ∈ (zs.mergeSort fun x y => decide (x ≤ y)) ↔ x ∈ zs := (List.mergeSort_perm zs _).mem_iff
theorem rising_small {zs : List Int} (h : zs.Pairwise (· < ·)) {n : Nat} (hb : ∀ x ∈ zs, 0 ≤ x ∧ x < n) : zs.length ≤ n := by
  have h1 := nodup_lt n (zs.map Int.toNat) (List.pairwise_map.2 (h.imp_of_mem fun {a b} ha hb' hab e => by
    have := (hb a ha).1
    have := (hb b hb').1
    omega)) fun x hx => by
    obtain ⟨z, hz, rfl⟩ := List.mem_map.1 hx
    have := hb z hz
    omega
  simpa using h1
theorem own_shrink {w : World} {base g n m cap : Nat} {e : TypeId} {xs : List Value} (h : w.ownsRow base e 1 (.slice (some ⟨g, 0, none⟩) n cap) n xs) (hm : m ≤ n) : w.ownsRow base e 1 (.slice (some ⟨g, 0, none⟩) m cap) m (xs.take m) := by
  obtain ⟨hl, ⟨h1, _⟩ | ⟨g', cap', cur, h1, h2, h3, h4, h5, h6, h7⟩⟩ := h
  · cases h1
  · cases h1
    refine ⟨by rw [List.length_take]; omega, .inr ⟨g, cap, cur, rfl, h2, h3, by omega, h5, h6, ?_⟩⟩
    rw [← h7, List.take_take]
    congr 1
    omega
/-- 'slices.Sort'. -/
theorem sort_own {w : World} {base : Nat} {v : Value} {zs : List Int} (h : w.ownsRow base 3 1 v zs.length (zs.map (Value.int .i64))) (hl : zs.length ≤ 100000) :
    Calls Tryz.prog 50 #[v] w fun e w' => e = .returned (.tuple #[]) ∧ w'.ownsRow base 3 1 v zs.length ((zs.mergeSort fun x y => decide (x ≤ y)).map (Value.int .i64)) ∧ w.grownBy w' v.ownBlock := by
  have hml : (zs.mergeSort fun x y => decide (x ≤ y)).length = zs.length := List.length_mergeSort _
  have h0 := h
  obtain ⟨_, ⟨rfl, hz⟩ | ⟨g, cap, cur, rfl, h2, h3, h4, h5, h6, h7⟩⟩ := h
  · have hz : zs = [] := List.eq_nil_of_length_eq_zero hz
    subst hz
    refine (Tryz.slices_Sort_int_none none 0 w).mono ?_
    rintro e w' ⟨rfl, rfl⟩
    exact ⟨rfl, by simpa using h0, ⟨rfl, rfl, rfl, Nat.le_refl _, fun _ _ _ => rfl⟩⟩
  · rw [Nat.mul_one] at h7
    refine (Tryz.slices_Sort_int g 0 cap zs w (holds_of_block_i h3 h7) (Array.getElem?_eq_some_iff.1 h3).1 (by omega)).mono ?_
    rintro e w' ⟨rfl, n, os, rfl⟩
    exact ⟨rfl, ownsRow_sorted_i hml h2 h3 h4 h5 h6, grownBy_sorted_i _⟩
/-- 'slices.Compact'. -/
theorem compact_own {w : World} {base : Nat} {v : Value} {zs : List Int} (h : w.ownsRow base 3 1 v zs.length (zs.map (Value.int .i64))) (hl : zs.length ≤ 100000) :
    Calls Tryz.prog 51 #[v] w fun e w' => ∃ v', e = .returned v' ∧ w'.ownsRow base 3 1 v' (Lib.compact zs).length ((Lib.compact zs).map (Value.int .i64)) ∧ w.grownBy w' v.ownBlock := by
  have hcl : (Lib.compact zs).length ≤ zs.length := by
    unfold Lib.compact compactUpTo
    rw [List.length_map]
    have := List.length_filter_le (keeps zs.toArray) (List.range zs.length)
    simpa using this
  have h0 := h
  obtain ⟨_, ⟨rfl, hz⟩ | ⟨g, cap, cur, rfl, h2, h3, h4, h5, h6, h7⟩⟩ := h
  · have hz : zs = [] := List.eq_nil_of_length_eq_zero hz
    subst hz
    refine (Tryz.slices_Compact_int_empty none 0 w).mono ?_
    rintro e w' ⟨rfl, rfl⟩
    exact ⟨_, rfl, World.ownsRow_nil _ _ _ _, ⟨rfl, rfl, rfl, Nat.le_refl _, fun _ _ _ => rfl⟩⟩
  · rw [Nat.mul_one] at h7
    refine (Tryz.slices_Compact_int g 0 cap zs w (holds_of_block_i h3 h7) (by omega) h4).mono ?_
    rintro e w' ⟨rfl, q, rfl⟩
    have hts : (Lib.compact zs ++ List.replicate (zs.length - (Lib.compact zs).length) 0).length = zs.length := by simp; omega
    have h8 := ownsRow_sorted_i (n := q) (os := #[]) hts h2 h3 h4 h5 h6
    rw [grow_empty] at h8
    have h9 := own_shrink h8 hcl
    have e1 : ((Lib.compact zs ++ List.replicate (zs.length - (Lib.compact zs).length) 0).map encZ).take (Lib.compact zs).length = (Lib.compact zs).map (Value.int .i64) := by
      rw [← List.map_take, List.take_left]
    rw [e1] at h9
    have h10 := grownBy_sorted_i (w := w) (g := g) (n := q) (os := #[]) (Lib.compact zs ++ List.replicate (zs.length - (Lib.compact zs).length) 0).toArray
    rw [grow_empty] at h10
    exact ⟨_, rfl, h9, h10⟩
theorem own_cell1 {w : World} {base : Nat} {e : TypeId} {v : Value} {n : Nat} {xs : List Value} (h : w.ownsRow base e 1 v n xs) : (v = .slice none 0 0 ∧ n = 0 ∧ xs = []) ∨ ∃ g cap, v = .slice (some ⟨g, 0, none⟩) n cap ∧ base ≤ g ∧ g < w.heap.size ∧ ∀ (j : Nat) u, xs[j]? = some u → w.cell? ⟨g, j, none⟩ = some u := by
  obtain ⟨hl, h | ⟨g, cap, cur, rfl, h1, h2, _, _, _, h6⟩⟩ := h
  · exact .inl ⟨h.1, h.2, List.eq_nil_of_length_eq_zero (by rw [hl, h.2])⟩
  · refine .inr ⟨g, cap, rfl, h1, (Array.getElem?_eq_some_iff.1 h2).1, fun j u hj => ?_⟩
    rw [← h6, List.getElem?_take] at hj
    split at hj
    · simp only [World.cell?, h2]
      simpa using hj
    · cases hj
/-- 'slices.Clone'. -/
theorem clone_own {w : World} {base : Nat} {v : Value} {zs : List Int} (h : w.ownsRow base 3 1 v zs.length (zs.map (Value.int .i64))) (hl : zs.length ≤ 100000) :
    Calls Tryz.prog 52 #[v] w fun e w' => ∃ v', e = .returned v' ∧ w'.ownsRow w.heap.size 3 1 v' zs.length (zs.map (Value.int .i64)) ∧ Below w.heap.size w w' := by
  rcases own_cell1 h with ⟨rfl, hz, _⟩ | ⟨g, cap, rfl, _, _, hc⟩
  · have hz : zs = [] := List.eq_nil_of_length_eq_zero hz
    subst hz
    refine (Tryz.slices_Clone_int_nil 0 0 w).mono ?_
    rintro e w' ⟨rfl, rfl⟩
    exact ⟨_, rfl, World.ownsRow_nil _ _ _ _, Below.refl _ _⟩
  · refine (Tryz.slices_Clone_int g 0 zs.length cap zs w (Nat.le_refl _) (by omega) (fun j hj => ?_)).mono ?_
    · rw [Nat.zero_add]
      refine hc j _ ?_
      rw [List.getElem?_map, List.getElem?_eq_getElem hj]
      simp [List.getD, List.getElem?_eq_getElem hj]
    · rintro e w' ⟨v', rfl, h1, _, h2⟩
      rw [List.take_length] at h1
      exact ⟨v', rfl, h1, h2⟩
/-- 'append(s, t...)', t a row of one's own or nil: the walk goes on in one way. -/
theorem wpList_append_rows {P : Program} {w : World} {ops : Array Oper} {rest : List Oper} {o : Oper} {a : Act} {Q : Exit → Act → World → Prop} (hgd : o.guard = none) (s x : Operand) (t : TypeId)
    (ho : o.op = .call { callee := .builtin .append, args := #[s, x], argTypes := #[t, t] })
    (base : Nat) (e : TypeId) (i : TypeInfo) (z : Value) (bytes : Nat) (ht : P.underlying t = some (.slice e)) (hi : P.info? e = some i) (hz : i.zero = some z)
    (hsize : i.size = 1) (hby : i.bytes = bytes) (hzs : z.cells.size = 1)
    (v : Value) (n : Nat) (xs : List Value) (hs : a.eval s = v) (hown : w.ownsRow base e 1 v n xs)
    (base2 : Nat) (u : Value) (m : Nat) (ys : List Value) (hx : a.eval x = u) (hown2 : w.ownsRow base2 e 1 u m ys) (h1 : ∀ u ∈ ys, u.oneCell' = true)
    (h63 : n + m ≤ maxLen) (hbytes : (n + m) * bytes ≤ 140737488355328) (hbase : base ≤ w.heap.size)
    (h : ∀ v' w', w'.ownsRow base e 1 v' (n + m) (xs ++ ys) → w.grownBy w' v.ownBlock → (v'.ownBlock = v.ownBlock ∨ v'.ownBlock = some w.heap.size) → wpList P ops Q rest (a.put o.dst v') w') : wpList P ops Q (o :: rest) a w := by
  rcases own_cell1 hown2 with ⟨rfl, rfl, rfl⟩ | ⟨g, cap, rfl, _, _, hc⟩
  · refine wpList_append_own_none hgd s x t ho base e i 1 ht hi v n xs hs hown hx (h v w ?_ ⟨rfl, rfl, rfl, Nat.le_refl _, fun _ _ _ => rfl⟩ (.inl rfl))
    rw [Nat.add_zero, List.append_nil]; exact hown
  · refine wpList_plain hgd fun K hK => ?_
    obtain ⟨v', w', hr, h2, h3, h4, h5⟩ := run_append_own_at (P := P) w base t o.type e i z 1 bytes ht hi hz hsize hby hzs (by omega) v n xs hown ⟨g, 0, none⟩ m cap ys (by rw [hown2.1]) (fun j u hj => by rw [Go.WideShapes.add_plain, Nat.zero_add]; exact hc j u hj) h1 h63 hbytes hbase
    unfold Oper.wp
    simp [execOp, ho, resolve, invoke, builtin, hs, hx, hr, Result.andThen]
    exact hK _ _ (h v' w' h2 h3 h5)
end Go.Proofs.YtddeekefomhbmaaGreatDoor
