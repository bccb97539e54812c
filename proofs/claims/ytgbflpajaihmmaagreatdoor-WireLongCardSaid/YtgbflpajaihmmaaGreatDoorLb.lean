/- From the row's condition to the cells of a variable that holds slices. No condition. -/
import Derived.Test.YtgbflpajaihmmaaGreatDoorLa
import Derived.ChangeSlices
namespace Go.Proofs.YtgbflpajaihmmaaGreatDoor
open Go Go.Eng Go.RowKit

section
variable {P : Program} {W : World}

theorem cells_of_cell {a : Addr} {v : Value} (h : W.cell? a = some v) : a.spot = none ∧ ∃ c t fr, W.heap[a.block]? = some (.cells c t fr) ∧ c[a.off]? = some v := by
  unfold World.cell? at h
  split at h
  · rename_i c t fr hc
    split at h
    · cases h
    · rename_i hs
      refine ⟨?_, c, t, fr, hc, h⟩
      cases hq : a.spot with
      | none => rfl
      | some x => rw [hq] at hs; simp at hs
  · cases h

/-- A slice of integers that reads as these holds them, in one block. -/
theorem lit_slice {enc : TypeId × Value → Unit} {b : Nat} {hd : Bool} {fuel : Nat} {t e : TypeId} {k : IntKind} {cs : List Value} {zs : List Int} {p : List MemPlace} (ht : P.underlying t = some (.slice e)) (he : P.underlying e = some (.int k)) (hc : P.cellsOf e = 1) (hz : zs ≠ [])
    (h : DataW.trod enc P W b (fun _ => true) hd fuel t cs = some (.slice (zs.map fun z => .lit (.int k z)) [], p)) :
    ∃ a : Addr, cs = [.slice (some a) zs.length zs.length] ∧ a.spot = none ∧ ∃ c t' fr, W.heap[a.block]? = some (.cells c t' fr) ∧ a.off + zs.length ≤ c.size ∧ (c.toList.drop a.off).take zs.length = zs.map (Value.int k) := by
  rcases ChangeShapes.open_ints ht he hc h with ⟨_, hx⟩ | ⟨a, len, cap, ys, rfl, _, hlc, _, hlen, hx, hcell, _⟩
  · cases hx
  · simp only [Prod.mk.injEq, DataW.slice.injEq] at hx
    obtain ⟨⟨h1, h2⟩, _⟩ := hx
    have hlen : ys.length = cap := hlen
    have h2' : ys.drop len = [] := by
      cases hy : ys.drop len with
      | nil => rfl
      | cons y l => rw [hy] at h2; simp [ChangeShapes.lits] at h2
    have hcl : cap ≤ len := by rw [← hlen]; exact List.drop_eq_nil_iff.1 h2'
    have hlen2 : len = cap := Nat.le_antisymm hlc hcl
    subst hlen2
    have htake : ys.take len = ys := by rw [← hlen, List.take_length]
    rw [htake] at h1
    have hys : ys = zs := by
      have : zs.map (fun z => (DataW.lit (.int k z) : DataW Unit)) = ys.map (fun z => .lit (.int k z)) := by simpa [ChangeShapes.lits] using h1
      clear h h1 hcell h2 htake hcl hlc hlen hz
      have inj : ∀ (l m : List Int), l.map (fun z => (DataW.lit (.int k z) : DataW Unit)) = m.map (fun z => .lit (.int k z)) → l = m := by
        intro l
        induction l with
        | nil => intro m hm; cases m with | nil => rfl | cons y m => simp at hm
        | cons x l ih =>
          intro m hm
          cases m with
          | nil => simp at hm
          | cons y m =>
            simp only [List.map_cons, List.cons.injEq, DataW.lit.injEq, Lit.int.injEq, true_and] at hm
            rw [hm.1, ih m hm.2]
      exact (inj _ _ this).symm
    subst hys
    have h0 : 0 < ys.length := List.length_pos_iff.2 hz
    have hz0 : a.add 0 = a := rfl
    obtain ⟨hs, c, t', fr, hc', _⟩ := cells_of_cell (hcell 0 h0)
    rw [hz0] at hs hc'
    obtain ⟨ab, ao, asp⟩ := a
    replace hs : asp = none := hs
    subst hs
    have each : ∀ i, i < ys.length → c[ao + i]? = some (.int k (ys.getD i 0)) := fun i hi => by
      have hci := hcell i hi
      rw [addr_add] at hci
      obtain ⟨_, c2, t2, fr2, hc2, hv⟩ := cells_of_cell hci
      have hc2' : W.heap[ab]? = some (.cells c2 t2 fr2) := hc2
      have hc3 : W.heap[ab]? = some (.cells c t' fr) := hc'
      rw [hc3] at hc2'
      cases hc2'
      exact hv
    refine ⟨⟨ab, ao, none⟩, by rw [hlen], rfl, c, t', fr, hc', ?_, ?_⟩
    · have := (Array.getElem?_eq_some_iff.1 (each (ys.length - 1) (by omega))).1
      show ao + ys.length ≤ c.size
      omega
    · apply List.ext_getElem?
      intro i
      by_cases hi : i < ys.length
      · rw [List.getElem?_take, if_pos hi, List.getElem?_drop, Array.getElem?_toList, each i hi]
        simp [List.getD, hi]
      · rw [List.getElem?_take, if_neg hi, List.getElem?_eq_none (by simp; omega)]
end
end Go.Proofs.YtgbflpajaihmmaaGreatDoor
