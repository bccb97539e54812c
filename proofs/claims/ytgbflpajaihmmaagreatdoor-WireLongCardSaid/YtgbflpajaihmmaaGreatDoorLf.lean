/- From the row's condition to the variables' state of the engine. No condition. -/
import Derived.Test.YtgbflpajaihmmaaGreatDoorLb
namespace Go.Proofs.YtgbflpajaihmmaaGreatDoor
open Go Go.Eng Go.RowKit
set_option maxRecDepth 100000

section
variable {P : Program} {W : World} {enc : TypeId × Value → Unit} {b : Nat} {sp : Nat → Bool} {hd : Bool}

theorem trod_string {fuel : Nat} {t : TypeId} {cs : List Value} {s : List UInt8} {p : List MemPlace} (hu : P.underlying t = some .string) (h : DataW.trod enc P W b sp hd fuel t cs = some (.lit (.string s), p)) :
    ∃ bs : ByteArray, cs = [.string bs] ∧ bs.data.toList = s := by
  cases fuel with
  | zero => simp [DataW.trod] at h
  | succ fuel =>
    unfold DataW.trod at h
    rw [hu] at h
    split at h <;> first | (simp at h; done) | (simp_all; done) | skip

theorem trod_pair {fuel : Nat} {t : TypeId} {fs : Array Field} {f0 f1 : Field} {cs : List Value} {d0 d1 : DataW Unit} {p : List MemPlace} (hu : P.underlying t = some (.struct fs)) (hfs : fs.toList = [f0, f1]) (ho0 : f0.offset = 0) (ho1 : f1.offset = 1)
    (h0 : P.cellsOf f0.type = 1) (h1 : P.cellsOf f1.type = 1) (ht : P.cellsOf t = 2) (h : DataW.trod enc P W b sp hd fuel t cs = some (.agg [d0, d1], p)) :
    ∃ fuel' c0 c1 p0 p1, cs = [c0, c1] ∧ DataW.trod enc P W b sp hd fuel' f0.type [c0] = some (d0, p0) ∧ DataW.trod enc P W b sp hd fuel' f1.type [c1] = some (d1, p1) := by
  cases fuel with
  | zero => simp [DataW.trod] at h
  | succ fuel =>
    unfold DataW.trod at h
    rw [hu] at h
    simp only at h
    split at h
    case isFalse => cases h
    rename_i hl
    obtain ⟨xs, hxs, hx⟩ := Option.map_eq_some_iff.1 h
    rw [hfs] at hxs
    rw [ht] at hl
    obtain ⟨c0, c1, rfl⟩ : ∃ c0 c1, cs = [c0, c1] := by
      match cs, hl with
      | [c0, c1], _ => exact ⟨c0, c1, rfl⟩
    rw [List.mapM_cons] at hxs
    obtain ⟨y0, hy0, hxs⟩ := Option.bind_eq_some_iff.1 hxs
    obtain ⟨ys, hys, hxs⟩ := Option.bind_eq_some_iff.1 hxs
    cases hxs
    rw [List.mapM_cons] at hys
    obtain ⟨y1, hy1, hys⟩ := Option.bind_eq_some_iff.1 hys
    obtain ⟨zs, hzs, hys⟩ := Option.bind_eq_some_iff.1 hys
    cases hys
    simp at hzs
    subst hzs
    simp only [Prod.mk.injEq, DataW.agg.injEq, List.map_cons, List.map_nil, List.cons.injEq] at hx
    obtain ⟨⟨rfl, rfl, _⟩, _⟩ := hx
    rw [ho0, h0] at hy0
    rw [ho1, h1] at hy1
    exact ⟨fuel, c0, c1, y0.2, y1.2, rfl, hy0, hy1⟩

theorem trod_four {fuel : Nat} {t e : TypeId} {cs : List Value} {d0 d1 d2 d3 : DataW Unit} {p : List MemPlace} (hu : P.underlying t = some (.array 4 e)) (he : P.cellsOf e = 2) (ht : P.cellsOf t = 8) (h : DataW.trod enc P W b sp hd fuel t cs = some (.agg [d0, d1, d2, d3], p)) :
    ∃ fuel' c0 c1 c2 c3 c4 c5 c6 c7 p0 p1 p2 p3, cs = [c0, c1, c2, c3, c4, c5, c6, c7] ∧ DataW.trod enc P W b sp hd fuel' e [c0, c1] = some (d0, p0) ∧ DataW.trod enc P W b sp hd fuel' e [c2, c3] = some (d1, p1) ∧
      DataW.trod enc P W b sp hd fuel' e [c4, c5] = some (d2, p2) ∧ DataW.trod enc P W b sp hd fuel' e [c6, c7] = some (d3, p3) := by
  cases fuel with
  | zero => simp [DataW.trod] at h
  | succ fuel =>
    unfold DataW.trod at h
    rw [hu] at h
    simp only at h
    split at h
    case isFalse => cases h
    rename_i hl
    obtain ⟨xs, hxs, hx⟩ := Option.map_eq_some_iff.1 h
    rw [ht] at hl
    obtain ⟨c0, c1, c2, c3, c4, c5, c6, c7, rfl⟩ : ∃ c0 c1 c2 c3 c4 c5 c6 c7, cs = [c0, c1, c2, c3, c4, c5, c6, c7] := by
      match cs, hl with
      | [c0, c1, c2, c3, c4, c5, c6, c7], _ => exact ⟨c0, c1, c2, c3, c4, c5, c6, c7, rfl⟩
    rw [show List.range 4 = [0, 1, 2, 3] from rfl, he] at hxs
    rw [List.mapM_cons] at hxs
    obtain ⟨y0, hy0, hxs⟩ := Option.bind_eq_some_iff.1 hxs
    obtain ⟨ys, hys, hxs⟩ := Option.bind_eq_some_iff.1 hxs
    cases hxs
    rw [List.mapM_cons] at hys
    obtain ⟨y1, hy1, hys⟩ := Option.bind_eq_some_iff.1 hys
    obtain ⟨zs, hzs, hys⟩ := Option.bind_eq_some_iff.1 hys
    cases hys
    rw [List.mapM_cons] at hzs
    obtain ⟨y2, hy2, hzs⟩ := Option.bind_eq_some_iff.1 hzs
    obtain ⟨us, hus, hzs⟩ := Option.bind_eq_some_iff.1 hzs
    cases hzs
    rw [List.mapM_cons] at hus
    obtain ⟨y3, hy3, hus⟩ := Option.bind_eq_some_iff.1 hus
    obtain ⟨vs, hvs, hus⟩ := Option.bind_eq_some_iff.1 hus
    cases hus
    simp at hvs
    subst hvs
    simp only [Prod.mk.injEq, DataW.agg.injEq, List.map_cons, List.map_nil, List.cons.injEq] at hx
    obtain ⟨⟨rfl, rfl, rfl, rfl, _⟩, _⟩ := hx
    exact ⟨fuel, c0, c1, c2, c3, c4, c5, c6, c7, y0.2, y1.2, y2.2, y3.2, rfl, hy0, hy1, hy2, hy3⟩

/-- A word and integers behind it, in one block. -/
theorem trod_form {fuel : Nat} {t e : TypeId} {k : IntKind} {fs : Array Field} {f0 f1 : Field} {c0 c1 : Value} {s : List UInt8} {zs : List Int} {p : List MemPlace} (hu : P.underlying t = some (.struct fs)) (hfs : fs.toList = [f0, f1]) (ho0 : f0.offset = 0) (ho1 : f1.offset = 1)
    (h0 : P.cellsOf f0.type = 1) (h1 : P.cellsOf f1.type = 1) (ht : P.cellsOf t = 2) (hs : P.underlying f0.type = some .string) (hsl : P.underlying f1.type = some (.slice e)) (he : P.underlying e = some (.int k)) (hc : P.cellsOf e = 1) (hz : zs ≠ [])
    (h : DataW.trod enc P W b (fun _ => true) hd fuel t [c0, c1] = some (.agg [.lit (.string s), .slice (zs.map fun z => .lit (.int k z)) []], p)) :
    (∃ bs : ByteArray, c0 = .string bs ∧ bs.data.toList = s) ∧ ∃ a : Addr, c1 = .slice (some a) zs.length zs.length ∧ a.spot = none ∧ ∃ c t' fr, W.heap[a.block]? = some (.cells c t' fr) ∧ a.off + zs.length ≤ c.size ∧ (c.toList.drop a.off).take zs.length = zs.map (Value.int k) := by
  obtain ⟨fuel', x0, x1, p0, p1, e1, g0, g1⟩ := trod_pair hu hfs ho0 ho1 h0 h1 ht h
  cases e1
  obtain ⟨bs, eb, hb⟩ := trod_string hs g0
  obtain ⟨a, ea, r⟩ := lit_slice hsl he hc hz g1
  cases eb
  cases ea
  exact ⟨⟨bs, rfl, hb⟩, a, rfl, r⟩
end

/-- Plain data in a variable's own block. -/
theorem holds_plain {W : World} {σ : Nat → Value} {ρ : Rho} {g el : Nat} {cs : List AV} {L : Eng.Loc} (hp : ∀ a ∈ cs, plainA a = true) (hel : el < tailN) (h : ∃ c fr, W.heap[g]? = some (.cells c el fr) ∧ VRs (fun _ => none) σ cs c.toList) (hL : L = ⟨g, 0, cs.length⟩) : Holds ρ σ W ⟨g, cs, el⟩ L := by
  obtain ⟨c, fr, h2, h3⟩ := h
  have hlen := h3.length
  have hsz : cs.length = c.size := by rw [← hlen]; simp
  subst hL
  refine ⟨c, el, fr, h2, fun _ => by unfold elOf; rw [if_pos hel], fun _ => rfl, ?_, Nat.le_refl _, by show 0 + cs.length ≤ c.size; omega⟩
  have : (c.toList.drop 0).take cs.length = c.toList := by rw [List.drop_zero, ← hlen, List.take_length]
  show VRs _ σ cs ((c.toList.drop 0).take cs.length)
  rw [this]
  exact plains_any hp h3

theorem ints_rel {ρ : Rho} {σ : Nat → Value} {k : IntKind} : ∀ zs : List Int, VRs ρ σ (zs.map (AV.int k)) (zs.map (Value.int k))
  | [] => rfl
  | _ :: zs => ⟨_, _, rfl, rfl, ints_rel zs⟩
/-- Integers in a part of a block. -/
theorem holds_ints {W : World} {σ : Nat → Value} {ρ : Rho} {g : Nat} {k : IntKind} {zs : List Int} {a : Addr} {L : Eng.Loc} (h : ∃ c t fr, W.heap[a.block]? = some (.cells c t fr) ∧ a.off + zs.length ≤ c.size ∧ (c.toList.drop a.off).take zs.length = zs.map (Value.int k))
    (hL : L = ⟨a.block, a.off, zs.length⟩) : Holds ρ σ W ⟨g, zs.map (AV.int k), unkT⟩ L := by
  obtain ⟨c, t, fr, h1, h2, h3⟩ := h
  subst hL
  refine ⟨c, t, fr, h1, fun h => absurd rfl h, fun h => absurd (show unkT < tailN from h) (by unfold unkT tailN; omega), ?_, by show (zs.map (AV.int k)).length ≤ zs.length; simp, h2⟩
  show VRs ρ σ (zs.map (AV.int k)) ((c.toList.drop a.off).take (zs.map (AV.int k)).length)
  rw [List.length_map, h3]
  exact ints_rel zs
end Go.Proofs.YtgbflpajaihmmaaGreatDoor
