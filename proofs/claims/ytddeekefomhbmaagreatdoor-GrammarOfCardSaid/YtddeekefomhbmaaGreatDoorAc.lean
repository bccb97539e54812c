/- A slice of structs of a small number and small numbers, opened. No condition. -/
import Derived.Deep.Slices
import Derived.ChangeSame
import Derived.Test.YtddeekefomhbmaaGreatDoorProg
namespace Go.Proofs.YtddeekefomhbmaaGreatDoor
open Go Go.ChangeShapes Go.WideShapes

/-- These small numbers lie there. -/
def RowU (w : World) (v : Value) (zs : List Nat) : Prop := (∃ a c, v = .slice a 0 c ∧ zs = []) ∨ ∃ b o c, v = .slice (some ⟨b, o, none⟩) zs.length c ∧ ∀ (j : Nat) (z : Nat), zs[j]? = some z → w.cell? ⟨b, o + j, none⟩ = some (.int .u8 (z : Int))
/-- Such structs lie there: small numbers, rows of small numbers. -/
def RowG (w : World) (v : Value) (gs : List (Nat × List Nat)) : Prop := (∃ a c, v = .slice a 0 c ∧ gs = []) ∨ ∃ b o c, v = .slice (some ⟨b, o, none⟩) gs.length c ∧
  ∀ (j : Nat) (g : Nat × List Nat), gs[j]? = some g → w.cell? ⟨b, o + 2 * j, none⟩ = some (.int .u8 (g.1 : Int)) ∧ ∃ s, w.cell? ⟨b, o + (2 * j + 1), none⟩ = some s ∧ RowU w s g.2

section
variable {H : Type} {enc : TypeId × Value → H} {P : Program} {w : World} {base : Nat} {spare : Nat → Bool} {held : Bool}

theorem u8_nat {z : Int} (h : (Lit.int .u8 z).wf = true) : ∃ n : Nat, z = n ∧ n < 256 := by
  simp only [Lit.wf, Bool.and_eq_true, decide_eq_true_eq] at h
  have h0 : (0 : Int) ≤ z := by simpa [IntKind.min, IntKind.signed] using h.1
  have h1 : z ≤ 255 := by simpa [IntKind.max, IntKind.signed, IntKind.bits] using h.2
  exact ⟨z.toNat, by omega, by omega⟩
/-- An address at which there is a cell is a plain one. -/
theorem plain_at {a : Addr} {v : Value} (h : w.cell? (a.add 0) = some v) : ∃ b o, a = ⟨b, o, none⟩ ∧ ∀ j, a.add j = ⟨b, o + j, none⟩ := by
  obtain ⟨b, o, spot⟩ := a
  have hs : spot = none := by simpa [Addr.add] using World.cell?_spot h
  subst hs
  exact ⟨b, o, rfl, fun j => Go.WideShapes.add_plain ..⟩
theorem open_rowU {s e : TypeId} {fuel : Nat} {v : Value} {x : DataW H × List MemPlace} (hs : P.underlying s = some (.slice e)) (he : P.underlying e = some (.int .u8)) (hc : P.cellsOf e = 1) (h : DataW.trod enc P w base spare held fuel s [v] = some x) : ∃ zs, RowU w v zs ∧ (∀ z ∈ zs, z < 256) ∧ zs.length ≤ maxLen := by
  rcases ChangeShapes.open_ints hs he hc h with ⟨hcs, _⟩ | ⟨a, len, cap, zs, hcs, _, hl, hcapm, hz, _, hcell, hwz⟩
  · cases hcs
    exact ⟨[], .inl ⟨_, _, rfl, rfl⟩, fun z hz => (by cases hz), Nat.zero_le _⟩
  · cases hcs
    have hlen : len ≤ zs.length := by rw [hz]; split <;> omega
    rcases Nat.eq_zero_or_pos len with h0 | h0
    · subst h0
      exact ⟨[], .inl ⟨_, _, rfl, rfl⟩, fun z hz => (by cases hz), Nat.zero_le _⟩
    · obtain ⟨b, o, rfl, hadd⟩ := plain_at (hcell 0 (by omega))
      refine ⟨(zs.take len).map Int.toNat, .inr ⟨b, o, cap, ?_, fun j z hj => ?_⟩, fun z hz => ?_, by rw [List.length_map, List.length_take, Nat.min_eq_left hlen]; omega⟩
      · rw [List.length_map, List.length_take, Nat.min_eq_left hlen]
      · rw [List.getElem?_map, List.getElem?_take] at hj
        split at hj
        · rename_i hjl
          have hjz : j < zs.length := by omega
          rw [List.getElem?_eq_getElem hjz] at hj
          cases hj
          have h1 := hcell j hjz
          rw [hadd] at h1
          rw [h1]
          obtain ⟨n, hn, _⟩ := u8_nat (hwz _ (List.getElem_mem hjz))
          simp only [List.getD, List.getElem?_eq_getElem hjz, Option.getD_some]
          rw [hn, Int.toNat_natCast]
        · cases hj
      · obtain ⟨y, hy, rfl⟩ := List.mem_map.1 hz
        obtain ⟨n, hn, hlt⟩ := u8_nat (hwz y (List.mem_of_mem_take hy))
        rw [hn, Int.toNat_natCast]; exact hlt
theorem open_rowG {t g s e : TypeId} {f0 f1 : Field} {fuel : Nat} {v : Value} {x : DataW H × List MemPlace} (ht : P.underlying t = some (.slice g)) (hg : P.underlying g = some (.struct #[f0, f1])) (hc : P.cellsOf g = 2) (o0 : f0.offset = 0) (o1 : f1.offset = 1)
    (t0 : f0.type = e) (t1 : f1.type = s) (hs : P.underlying s = some (.slice e)) (he : P.underlying e = some (.int .u8)) (hce : P.cellsOf e = 1) (hcs : P.cellsOf s = 1) (h : DataW.trod enc P w base spare held fuel t [v] = some x) :
    ∃ gs, RowG w v gs ∧ (∀ y ∈ gs, y.1 < 256 ∧ (∀ z ∈ y.2, z < 256) ∧ y.2.length ≤ maxLen) ∧ gs.length ≤ maxLen ∧ (v = .slice none 0 0 ∨ ∃ a n c, v = .slice (some a) n c) := by
  rcases Deep.open_slice ht h with ⟨hv, _⟩ | ⟨a, len, cap, m, n, D, Pl, hv, _, hl, hcapm, hm, _, hel⟩
  · cases hv
    exact ⟨[], .inl ⟨_, _, rfl, rfl⟩, fun y hy => (by cases hy), Nat.zero_le _, .inl rfl⟩
  · cases hv
    have hlen : len ≤ m := by rw [hm]; split <;> omega
    rcases Nat.eq_zero_or_pos len with h0 | h0
    · subst h0
      exact ⟨[], .inl ⟨_, _, rfl, rfl⟩, fun y hy => (by cases hy), Nat.zero_le _, .inr ⟨_, _, _, rfl⟩⟩
    have each : ∀ i, i < len → ∃ y : Nat × List Nat, w.cell? (a.add (2 * i)) = some (.int .u8 (y.1 : Int)) ∧ (∃ s', w.cell? (a.add (2 * i + 1)) = some s' ∧ RowU w s' y.2) ∧ y.1 < 256 ∧ (∀ z ∈ y.2, z < 256) ∧ y.2.length ≤ maxLen := by
      intro i hi
      obtain ⟨cs', hcs', htr⟩ := hel i (by omega)
      rw [hc] at hcs'
      obtain ⟨y0, y1, n', _, hln, h1, h2⟩ := trod_struct2 hg htr
      obtain ⟨_, _, hcell⟩ := World.cells?_some hcs'
      have hlen2 : cs'.length = 2 := by rw [hln, hc]
      obtain ⟨c0, c1, rfl⟩ : ∃ c0 c1, cs' = [c0, c1] := by
        match cs', hlen2 with
        | [c0, c1], _ => exact ⟨c0, c1, rfl⟩
      have k0 := hcell 0 (by omega)
      have k1 := hcell 1 (by omega)
      rw [Deep.add_add] at k0 k1
      rw [o0, t0, hce] at h1
      rw [o1, t1, hcs] at h2
      obtain ⟨z, hz1, _, hw⟩ := DataW.trod_int he h1
      have hz1 : c0 = .int .u8 z := by simpa using hz1
      obtain ⟨nn, rfl, hnn⟩ := u8_nat hw
      obtain ⟨zs, hzs, hzb, hzl⟩ := open_rowU hs he hce h2
      refine ⟨(nn, zs), ?_, ⟨c1, ?_, hzs⟩, hnn, hzb, hzl⟩
      · rw [show 2 * i = i * 2 + 0 by omega, k0, ← hz1]; rfl
      · rw [show 2 * i + 1 = i * 2 + 1 by omega, k1]; rfl
    obtain ⟨f, hf⟩ := Deep.choose_lt each
    obtain ⟨b, o, rfl, hadd⟩ := plain_at (hf 0 h0).1
    refine ⟨(List.range len).map f, .inr ⟨b, o, cap, by simp, fun j y hj => ?_⟩, fun y hy => ?_, by simp; omega, .inr ⟨_, _, _, rfl⟩⟩
    · rw [List.getElem?_map] at hj
      by_cases hjl : j < len
      · rw [List.getElem?_range hjl] at hj
        cases hj
        obtain ⟨q1, ⟨s', q2, q3⟩, _⟩ := hf j hjl
        rw [hadd] at q1 q2
        exact ⟨q1, s', q2, q3⟩
      · rw [List.getElem?_eq_none (by simpa using hjl)] at hj; cases hj
    · obtain ⟨j, hj, rfl⟩ := List.mem_map.1 hy
      exact (hf j (List.mem_range.1 hj)).2.2
end
end Go.Proofs.YtddeekefomhbmaaGreatDoor
