/- From the row's condition on variables to the cells that the engine reads. From the row's condition to the cells of a variable that holds slices. From the row's condition to the variables' state of the engine. Where the listed variables read as the program lays them, the engine's state of the variables holds. No condition. -/
import Derived.Test.YtddeekefomhbmaaGreatDoorRa
import Derived.ProofKit
import Derived.OpenShut
import Derived.LaidMore
import Derived.Lay
import Derived.Stop.Joined
import Derived.ChangeSlices
import Derived.Shelf.Strings.Shaped
/-! From the row's condition on variables to the cells that the engine reads. -/
namespace Go.Proofs.YtddeekefomhbmaaGreatDoor
open Go Go.Eng Go.RowKit

section
variable {P : Program} {W : World} {ρ : Rho} {σ : Nat → Value}

/-- Places one behind the other. -/
def consec {α : Type} (off sz : α → Nat) : List α → Nat → Nat → Prop
  | [], o, e => o = e
  | a :: l, o, e => off a = o ∧ consec off sz l (o + sz a) e

theorem consec_le {α : Type} {off sz : α → Nat} : ∀ {l : List α} {o e : Nat}, consec off sz l o e → o ≤ e
  | [], _, _, h => Nat.le_of_eq h
  | _ :: _, _, _, ⟨_, h⟩ => Nat.le_trans (Nat.le_add_right _ _) (consec_le h)

theorem take_split {α : Type} (l : List α) (o z e : Nat) (h : o + z ≤ e) : (l.drop o).take (e - o) = (l.drop o).take z ++ (l.drop (o + z)).take (e - (o + z)) := by
  have : e - o = z + (e - (o + z)) := by omega
  rw [this, List.take_add, List.drop_drop]

theorem pieces {α : Type} {f : α → Option (DataW Unit × List MemPlace)} {off sz : α → Nat} {cs : List Value} : ∀ (l : List α) (xs : List (DataW Unit × List MemPlace)) (o e : Nat), l.mapM f = some xs → consec off sz l o e →
    (∀ a ∈ l, ∀ x, f a = some x → VRs ρ σ (flatD x.1) ((cs.drop (off a)).take (sz a))) → VRs ρ σ (flatDs (xs.map (·.1))) ((cs.drop o).take (e - o))
  | [], xs, o, e, h, hc, _ => by
    simp at h; subst h
    have : o = e := hc
    subst this
    simp [flatDs, VRs]
  | a :: l, xs, o, e, h, ⟨h1, h2⟩, H => by
    rw [List.mapM_cons] at h
    obtain ⟨y, hy, h⟩ := Option.bind_eq_some_iff.1 h
    obtain ⟨ys, hys, h⟩ := Option.bind_eq_some_iff.1 h
    cases h
    subst h1
    have ih := pieces l ys _ e hys h2 (fun b hb => H b (by simp [hb]))
    rw [take_split cs (off a) (sz a) e (consec_le h2), List.map_cons]
    unfold flatDs
    exact (H a (by simp) y hy).append ih

theorem consec_range (z : Nat) : ∀ (m s : Nat), consec (fun i => i * z) (fun _ => z) (List.range' s m) (s * z) ((s + m) * z)
  | 0, s => rfl
  | m + 1, s => by
    refine ⟨rfl, ?_⟩
    have h := consec_range z m (s + 1)
    have e1 : (s + 1) * z = s * z + z := Nat.succ_mul s z
    have e2 : s + 1 + m = s + (m + 1) := by omega
    rw [e1, e2] at h
    exact h

/-- Fields one behind the other, each plain. -/
def okFs (P : Program) (ok : TypeId → Bool) : List Field → Nat → Nat → Bool
  | [], o, e => Nat.beq o e
  | f :: l, o, e => Nat.beq f.offset o && ok f.type && okFs P ok l (o + P.cellsOf f.type) e
/-- A type of numbers, bools and strings, arrays and structs of such. -/
def okT (P : Program) : Nat → TypeId → Bool
  | 0, _ => false
  | n + 1, t => match P.underlying t with
    | some (.int _) => true
    | some .string => true
    | some .bool => true
    | some (.array m e) => okT P n e && Nat.beq (P.cellsOf t) (m * P.cellsOf e)
    | some (.struct fs) => okFs P (okT P n) fs.toList 0 (P.cellsOf t)
    | _ => false

theorem okFs_spec {ok : TypeId → Bool} : ∀ {l : List Field} {o e : Nat}, okFs P ok l o e = true → consec (fun f : Field => f.offset) (fun f => P.cellsOf f.type) l o e ∧ ∀ f ∈ l, ok f.type = true
  | [], o, e, h => ⟨Nat.eq_of_beq_eq_true h, fun _ h => by cases h⟩
  | f :: l, o, e, h => by
    simp only [okFs, Bool.and_eq_true] at h
    obtain ⟨⟨h1, h2⟩, h3⟩ := h
    obtain ⟨h4, h5⟩ := okFs_spec h3
    refine ⟨⟨Nat.eq_of_beq_eq_true h1, h4⟩, fun g hg => ?_⟩
    rcases List.mem_cons.1 hg with rfl | hg
    · exact h2
    · exact h5 g hg

/-- WHAT READS AS PLAIN DATA HOLDS THEM, CELL FOR CELL. -/
theorem flat_trod {enc : TypeId × Value → Unit} {b : Nat} {sp : Nat → Bool} {hd : Bool} : ∀ (n : Nat) (t : TypeId), okT P n t = true → ∀ (fuel : Nat) (cs : List Value) (x : DataW Unit × List MemPlace), DataW.trod enc P W b sp hd fuel t cs = some x → VRs ρ σ (flatD x.1) cs
  | 0, _, h, _, _, _, _ => by cases h
  | n + 1, t, h, 0, cs, x, hx => by simp [DataW.trod] at hx
  | n + 1, t, h, fuel + 1, cs, x, hx => by
    unfold okT at h
    unfold DataW.trod at hx
    cases hu : P.underlying t with
    | none => rw [hu] at h; cases h
    | some u =>
      rw [hu] at h hx
      cases u <;> simp only [Bool.false_eq_true] at h
      case bool =>
        split at hx <;> first | (cases hx; simp [flatD, VRs, VR]; done) | (cases hx; done) | (simp_all; done)
      case int k =>
        split at hx <;> first | cases hx | skip
        all_goals simp_all
        obtain ⟨_, rfl⟩ := hx
        simp [flatD, VRs, VR]
      case string =>
        split at hx <;> first | cases hx | skip
        all_goals simp_all
        obtain ⟨_, rfl⟩ := hx
        simp [flatD, VRs, VR, bytesNat]
      case array m e =>
        simp only [Bool.and_eq_true] at h
        have hm := Nat.eq_of_beq_eq_true h.2
        simp only at hx
        split at hx
        case isFalse => cases hx
        rename_i hl
        obtain ⟨xs, hxs, rfl⟩ := Option.map_eq_some_iff.1 hx
        have hc := consec_range (P.cellsOf e) m 0
        rw [Nat.zero_mul, Nat.zero_add] at hc
        rw [List.range_eq_range'] at hxs
        have := pieces (ρ := ρ) (σ := σ) (cs := cs) _ xs 0 (m * P.cellsOf e) hxs hc (fun a _ y hy => flat_trod n e h.1 fuel _ y hy)
        rw [Nat.sub_zero, List.drop_zero, ← hm, ← hl, List.take_length] at this
        simp only [flatD]
        exact this
      case struct fs =>
        obtain ⟨h1, h2⟩ := okFs_spec h
        simp only at hx
        split at hx
        case isFalse => cases hx
        rename_i hl
        obtain ⟨xs, hxs, rfl⟩ := Option.map_eq_some_iff.1 hx
        have := pieces (ρ := ρ) (σ := σ) (cs := cs) _ xs 0 (P.cellsOf t) hxs h1 (fun a ha y hy => flat_trod n a.type (h2 a ha) fuel _ y hy)
        rw [Nat.sub_zero, List.drop_zero, ← hl, List.take_length] at this
        simp only [flatD]
        exact this

theorem laid_at {l : List (String × DataW Unit)} {ps : List MemPlace} (h : DataW.LaidVars P W l ps) : ∀ x ∈ l, ∃ g t cs fuel p, P.globalNamed x.1 = some g ∧ (P.globals[g]?).map (·.type) = some t ∧ W.var? P x.1 = some cs ∧
    DataW.trod (fun _ => ()) P W 0 (fun _ => true) false fuel t cs.toList = some (x.2, p) := by
  induction l generalizing ps with
  | nil => intro x hx; cases hx
  | cons y l ih =>
    obtain ⟨n, d⟩ := y
    obtain ⟨g, t, cs, fuel, p, q, h1, h2, h3, h4, h5, _⟩ := h
    intro x hx
    rcases List.mem_cons.1 hx with rfl | hx
    · exact ⟨g, t, cs, fuel, p, h1, h2, h3, h4⟩
    · exact ih h5 x hx

/-- What a variable of plain data holds. -/
theorem plain_var {l : List (String × DataW Unit)} (h : laidMet P l W) (hs : W.ShapedOpen P) {nm : String} {d : DataW Unit} (hm : (nm, d) ∈ l) {g t el : Nat} (hg : P.globalNamed nm = some g) (ht : (P.globals[g]?).map (·.type) = some t) (n : Nat) (hok : okT P n t = true)
    (hlt : g < P.globals.size) (hel : (((begin P (fun _ _ => 0) default).world.heap[g]?).bind Obj.row?).map (·.2) = some el) : ∃ c fr, W.heap[g]? = some (.cells c el fr) ∧ VRs ρ σ (flatD d) c.toList := by
  obtain ⟨ps, hl, _⟩ := h
  obtain ⟨g', t', cs, fuel, p, h1, h2, h3, h4⟩ := laid_at hl _ hm
  obtain rfl := Option.some.inj (hg.symm.trans h1)
  obtain rfl := Option.some.inj (ht.symm.trans h2)
  have hv := flat_trod (ρ := ρ) (σ := σ) n t hok fuel _ _ h4
  obtain ⟨⟨zero, el'⟩, hz, he⟩ := Option.map_eq_some_iff.1 hel
  obtain ⟨cs2, hc, _⟩ := hs.1 g zero el' hlt hz
  unfold World.var? at h3
  rw [h1] at h3
  simp only [Option.bind_some, hc, Option.some.injEq] at h3
  subst h3
  have he : el' = el := he
  subst he
  exact ⟨_, _, hc, hv⟩

/-- What a variable of an interface type holds: one cell. -/
theorem iface_var {l : List (String × DataW Unit)} (h : laidMet P l W) (hs : W.ShapedOpen P) {nm ty : String} {D d : DataW Unit} (hm : (nm, D) ∈ l) (hD : D = .iface ty d) {g t el : Nat} (hg : P.globalNamed nm = some g) (ht : (P.globals[g]?).map (·.type) = some t) {ms : Array (String × TypeId)} (hu : P.underlying t = some (.interface ms))
    (hlt : g < P.globals.size) (hel : (((begin P (fun _ _ => 0) default).world.heap[g]?).bind Obj.row?).map (·.2) = some el) : ∃ c fr, W.heap[g]? = some (.cells c el fr) ∧ VRs ρ σ [.unk] c.toList := by
  subst hD
  obtain ⟨ps, hl, _⟩ := h
  obtain ⟨g', t', cs, fuel, p, h1, h2, h3, h4⟩ := laid_at hl _ hm
  obtain rfl := Option.some.inj (hg.symm.trans h1)
  obtain rfl := Option.some.inj (ht.symm.trans h2)
  have hv : VRs ρ σ [.unk] cs.toList := by
    cases fuel with
    | zero => simp [DataW.trod] at h4
    | succ fuel =>
      unfold DataW.trod at h4
      rw [hu] at h4
      simp only at h4
      split at h4 <;> first | (simp at h4; done) | (rename_i heq _; cases heq; done) | (rename_i heq; cases heq; done) | (simp_all; done) | skip
      rename_i hcs
      rw [hcs]
      exact ⟨_, _, rfl, rfl, rfl⟩
  obtain ⟨⟨zero, el'⟩, hz, he⟩ := Option.map_eq_some_iff.1 hel
  obtain ⟨cs2, hc, _⟩ := hs.1 g zero el' hlt hz
  unfold World.var? at h3
  rw [h1] at h3
  simp only [Option.bind_some, hc, Option.some.injEq] at h3
  subst h3
  have he : el' = el := he
  subst he
  exact ⟨_, _, hc, hv⟩
end
end Go.Proofs.YtddeekefomhbmaaGreatDoor

/-! From the row's condition to the cells of a variable that holds slices. -/
namespace Go.Proofs.YtddeekefomhbmaaGreatDoor
open Go Go.Eng Go.RowKit

section
variable {P : Program} {W : World}

theorem cells_of_cell {a : Addr} {v : Value} (h : W.cell? a = some v) : a.spot = none ∧ ∃ c t fr, W.heap[a.block]? = some (.cells c t fr) ∧ c[a.off]? = some v := by
  unfold World.cell? at h
  split at h
  · rename_i c t fr hc
    split at h
    · cases h
    · rename_i hs
      refine ⟨?_, c, t, fr, hc, h⟩
      cases hq : a.spot with
      | none => rfl
      | some x => rw [hq] at hs; simp at hs
  · cases h

/-- A slice of integers that reads as these holds them, in one block. -/
theorem lit_slice {enc : TypeId × Value → Unit} {b : Nat} {hd : Bool} {fuel : Nat} {t e : TypeId} {k : IntKind} {cs : List Value} {zs : List Int} {p : List MemPlace} (ht : P.underlying t = some (.slice e)) (he : P.underlying e = some (.int k)) (hc : P.cellsOf e = 1) (hz : zs ≠ [])
    (h : DataW.trod enc P W b (fun _ => true) hd fuel t cs = some (.slice (zs.map fun z => .lit (.int k z)) [], p)) :
    ∃ a : Addr, cs = [.slice (some a) zs.length zs.length] ∧ a.spot = none ∧ ∃ c t' fr, W.heap[a.block]? = some (.cells c t' fr) ∧ a.off + zs.length ≤ c.size ∧ (c.toList.drop a.off).take zs.length = zs.map (Value.int k) := by
  rcases ChangeShapes.open_ints ht he hc h with ⟨_, hx⟩ | ⟨a, len, cap, ys, rfl, _, hlc, _, hlen, hx, hcell, _⟩
  · cases hx
  · simp only [Prod.mk.injEq, DataW.slice.injEq] at hx
    obtain ⟨⟨h1, h2⟩, _⟩ := hx
    have hlen : ys.length = cap := hlen
    have h2' : ys.drop len = [] := by
      cases hy : ys.drop len with
      | nil => rfl
      | cons y l => rw [hy] at h2; simp [ChangeShapes.lits] at h2
    have hcl : cap ≤ len := by rw [← hlen]; exact List.drop_eq_nil_iff.1 h2'
    have hlen2 : len = cap := Nat.le_antisymm hlc hcl
    subst hlen2
    have htake : ys.take len = ys := by rw [← hlen, List.take_length]
    rw [htake] at h1
    have hys : ys = zs := by
      have : zs.map (fun z => (DataW.lit (.int k z) : DataW Unit)) = ys.map (fun z => .lit (.int k z)) := by simpa [ChangeShapes.lits] using h1
      clear h h1 hcell h2 htake hcl hlc hlen hz
      have inj : ∀ (l m : List Int), l.map (fun z => (DataW.lit (.int k z) : DataW Unit)) = m.map (fun z => .lit (.int k z)) → l = m := by
        intro l
        induction l with
        | nil => intro m hm; cases m with | nil => rfl | cons y m => simp at hm
        | cons x l ih =>
          intro m hm
          cases m with
          | nil => simp at hm
          | cons y m =>
            simp only [List.map_cons, List.cons.injEq, DataW.lit.injEq, Lit.int.injEq, true_and] at hm
            rw [hm.1, ih m hm.2]
      exact (inj _ _ this).symm
    subst hys
    have h0 : 0 < ys.length := List.length_pos_iff.2 hz
    have hz0 : a.add 0 = a := rfl
    obtain ⟨hs, c, t', fr, hc', _⟩ := cells_of_cell (hcell 0 h0)
    rw [hz0] at hs hc'
    obtain ⟨ab, ao, asp⟩ := a
    replace hs : asp = none := hs
    subst hs
    have each : ∀ i, i < ys.length → c[ao + i]? = some (.int k (ys.getD i 0)) := fun i hi => by
      have hci := hcell i hi
      rw [addr_add] at hci
      obtain ⟨_, c2, t2, fr2, hc2, hv⟩ := cells_of_cell hci
      have hc2' : W.heap[ab]? = some (.cells c2 t2 fr2) := hc2
      have hc3 : W.heap[ab]? = some (.cells c t' fr) := hc'
      rw [hc3] at hc2'
      cases hc2'
      exact hv
    refine ⟨⟨ab, ao, none⟩, by rw [hlen], rfl, c, t', fr, hc', ?_, ?_⟩
    · have := (Array.getElem?_eq_some_iff.1 (each (ys.length - 1) (by omega))).1
      show ao + ys.length ≤ c.size
      omega
    · apply List.ext_getElem?
      intro i
      by_cases hi : i < ys.length
      · rw [List.getElem?_take, if_pos hi, List.getElem?_drop, Array.getElem?_toList, each i hi]
        simp [List.getD, hi]
      · rw [List.getElem?_take, if_neg hi, List.getElem?_eq_none (by simp; omega)]
end
end Go.Proofs.YtddeekefomhbmaaGreatDoor

/-! From the row's condition to the variables' state of the engine. -/
namespace Go.Proofs.YtddeekefomhbmaaGreatDoor
open Go Go.Eng Go.RowKit
set_option maxRecDepth 100000

section
variable {P : Program} {W : World} {enc : TypeId × Value → Unit} {b : Nat} {sp : Nat → Bool} {hd : Bool}

theorem trod_string {fuel : Nat} {t : TypeId} {cs : List Value} {s : List UInt8} {p : List MemPlace} (hu : P.underlying t = some .string) (h : DataW.trod enc P W b sp hd fuel t cs = some (.lit (.string s), p)) :
    ∃ bs : ByteArray, cs = [.string bs] ∧ bs.data.toList = s := by
  cases fuel with
  | zero => simp [DataW.trod] at h
  | succ fuel =>
    unfold DataW.trod at h
    rw [hu] at h
    split at h <;> first | (simp at h; done) | (simp_all; done) | skip

theorem trod_pair {fuel : Nat} {t : TypeId} {fs : Array Field} {f0 f1 : Field} {cs : List Value} {d0 d1 : DataW Unit} {p : List MemPlace} (hu : P.underlying t = some (.struct fs)) (hfs : fs.toList = [f0, f1]) (ho0 : f0.offset = 0) (ho1 : f1.offset = 1)
    (h0 : P.cellsOf f0.type = 1) (h1 : P.cellsOf f1.type = 1) (ht : P.cellsOf t = 2) (h : DataW.trod enc P W b sp hd fuel t cs = some (.agg [d0, d1], p)) :
    ∃ fuel' c0 c1 p0 p1, cs = [c0, c1] ∧ DataW.trod enc P W b sp hd fuel' f0.type [c0] = some (d0, p0) ∧ DataW.trod enc P W b sp hd fuel' f1.type [c1] = some (d1, p1) := by
  cases fuel with
  | zero => simp [DataW.trod] at h
  | succ fuel =>
    unfold DataW.trod at h
    rw [hu] at h
    simp only at h
    split at h
    case isFalse => cases h
    rename_i hl
    obtain ⟨xs, hxs, hx⟩ := Option.map_eq_some_iff.1 h
    rw [hfs] at hxs
    rw [ht] at hl
    obtain ⟨c0, c1, rfl⟩ : ∃ c0 c1, cs = [c0, c1] := by
      match cs, hl with
      | [c0, c1], _ => exact ⟨c0, c1, rfl⟩
    rw [List.mapM_cons] at hxs
    obtain ⟨y0, hy0, hxs⟩ := Option.bind_eq_some_iff.1 hxs
    obtain ⟨ys, hys, hxs⟩ := Option.bind_eq_some_iff.1 hxs
    cases hxs
    rw [List.mapM_cons] at hys
    obtain ⟨y1, hy1, hys⟩ := Option.bind_eq_some_iff.1 hys
    obtain ⟨zs, hzs, hys⟩ := Option.bind_eq_some_iff.1 hys
    cases hys
    simp at hzs
    subst hzs
    simp only [Prod.mk.injEq, DataW.agg.injEq, List.map_cons, List.map_nil, List.cons.injEq] at hx
    obtain ⟨⟨rfl, rfl, _⟩, _⟩ := hx
    rw [ho0, h0] at hy0
    rw [ho1, h1] at hy1
    exact ⟨fuel, c0, c1, y0.2, y1.2, rfl, hy0, hy1⟩

theorem trod_four {fuel : Nat} {t e : TypeId} {cs : List Value} {d0 d1 d2 d3 : DataW Unit} {p : List MemPlace} (hu : P.underlying t = some (.array 4 e)) (he : P.cellsOf e = 2) (ht : P.cellsOf t = 8) (h : DataW.trod enc P W b sp hd fuel t cs = some (.agg [d0, d1, d2, d3], p)) :
    ∃ fuel' c0 c1 c2 c3 c4 c5 c6 c7 p0 p1 p2 p3, cs = [c0, c1, c2, c3, c4, c5, c6, c7] ∧ DataW.trod enc P W b sp hd fuel' e [c0, c1] = some (d0, p0) ∧ DataW.trod enc P W b sp hd fuel' e [c2, c3] = some (d1, p1) ∧
      DataW.trod enc P W b sp hd fuel' e [c4, c5] = some (d2, p2) ∧ DataW.trod enc P W b sp hd fuel' e [c6, c7] = some (d3, p3) := by
  cases fuel with
  | zero => simp [DataW.trod] at h
  | succ fuel =>
    unfold DataW.trod at h
    rw [hu] at h
    simp only at h
    split at h
    case isFalse => cases h
    rename_i hl
    obtain ⟨xs, hxs, hx⟩ := Option.map_eq_some_iff.1 h
    rw [ht] at hl
    obtain ⟨c0, c1, c2, c3, c4, c5, c6, c7, rfl⟩ : ∃ c0 c1 c2 c3 c4 c5 c6 c7, cs = [c0, c1, c2, c3, c4, c5, c6, c7] := by
      match cs, hl with
      | [c0, c1, c2, c3, c4, c5, c6, c7], _ => exact ⟨c0, c1, c2, c3, c4, c5, c6, c7, rfl⟩
    rw [show List.range 4 = [0, 1, 2, 3] from rfl, he] at hxs
    rw [List.mapM_cons] at hxs
    obtain ⟨y0, hy0, hxs⟩ := Option.bind_eq_some_iff.1 hxs
    obtain ⟨ys, hys, hxs⟩ := Option.bind_eq_some_iff.1 hxs
    cases hxs
    rw [List.mapM_cons] at hys
    obtain ⟨y1, hy1, hys⟩ := Option.bind_eq_some_iff.1 hys
    obtain ⟨zs, hzs, hys⟩ := Option.bind_eq_some_iff.1 hys
    cases hys
    rw [List.mapM_cons] at hzs
    obtain ⟨y2, hy2, hzs⟩ := Option.bind_eq_some_iff.1 hzs
    obtain ⟨us, hus, hzs⟩ := Option.bind_eq_some_iff.1 hzs
    cases hzs
    rw [List.mapM_cons] at hus
    obtain ⟨y3, hy3, hus⟩ := Option.bind_eq_some_iff.1 hus
    obtain ⟨vs, hvs, hus⟩ := Option.bind_eq_some_iff.1 hus
    cases hus
    simp at hvs
    subst hvs
    simp only [Prod.mk.injEq, DataW.agg.injEq, List.map_cons, List.map_nil, List.cons.injEq] at hx
    obtain ⟨⟨rfl, rfl, rfl, rfl, _⟩, _⟩ := hx
    exact ⟨fuel, c0, c1, c2, c3, c4, c5, c6, c7, y0.2, y1.2, y2.2, y3.2, rfl, hy0, hy1, hy2, hy3⟩

/-- A word and integers behind it, in one block. -/
theorem trod_form {fuel : Nat} {t e : TypeId} {k : IntKind} {fs : Array Field} {f0 f1 : Field} {c0 c1 : Value} {s : List UInt8} {zs : List Int} {p : List MemPlace} (hu : P.underlying t = some (.struct fs)) (hfs : fs.toList = [f0, f1]) (ho0 : f0.offset = 0) (ho1 : f1.offset = 1)
    (h0 : P.cellsOf f0.type = 1) (h1 : P.cellsOf f1.type = 1) (ht : P.cellsOf t = 2) (hs : P.underlying f0.type = some .string) (hsl : P.underlying f1.type = some (.slice e)) (he : P.underlying e = some (.int k)) (hc : P.cellsOf e = 1) (hz : zs ≠ [])
    (h : DataW.trod enc P W b (fun _ => true) hd fuel t [c0, c1] = some (.agg [.lit (.string s), .slice (zs.map fun z => .lit (.int k z)) []], p)) :
    (∃ bs : ByteArray, c0 = .string bs ∧ bs.data.toList = s) ∧ ∃ a : Addr, c1 = .slice (some a) zs.length zs.length ∧ a.spot = none ∧ ∃ c t' fr, W.heap[a.block]? = some (.cells c t' fr) ∧ a.off + zs.length ≤ c.size ∧ (c.toList.drop a.off).take zs.length = zs.map (Value.int k) := by
  obtain ⟨fuel', x0, x1, p0, p1, e1, g0, g1⟩ := trod_pair hu hfs ho0 ho1 h0 h1 ht h
  cases e1
  obtain ⟨bs, eb, hb⟩ := trod_string hs g0
  obtain ⟨a, ea, r⟩ := lit_slice hsl he hc hz g1
  cases eb
  cases ea
  exact ⟨⟨bs, rfl, hb⟩, a, rfl, r⟩
end

/-- Plain data in a variable's own block. -/
theorem holds_plain {W : World} {σ : Nat → Value} {ρ : Rho} {g el : Nat} {cs : List AV} {L : Eng.Loc} (hp : ∀ a ∈ cs, plainA a = true) (hel : el < tailN) (h : ∃ c fr, W.heap[g]? = some (.cells c el fr) ∧ VRs (fun _ => none) σ cs c.toList) (hL : L = ⟨g, 0, cs.length⟩) : Holds ρ σ W ⟨g, cs, el⟩ L := by
  obtain ⟨c, fr, h2, h3⟩ := h
  have hlen := h3.length
  have hsz : cs.length = c.size := by rw [← hlen]; simp
  subst hL
  refine ⟨c, el, fr, h2, fun _ => by unfold elOf; rw [if_pos hel], fun _ => rfl, ?_, Nat.le_refl _, by show 0 + cs.length ≤ c.size; omega⟩
  have : (c.toList.drop 0).take cs.length = c.toList := by rw [List.drop_zero, ← hlen, List.take_length]
  show VRs _ σ cs ((c.toList.drop 0).take cs.length)
  rw [this]
  exact plains_any hp h3

theorem ints_rel {ρ : Rho} {σ : Nat → Value} {k : IntKind} : ∀ zs : List Int, VRs ρ σ (zs.map (AV.int k)) (zs.map (Value.int k))
  | [] => rfl
  | _ :: zs => ⟨_, _, rfl, rfl, ints_rel zs⟩
/-- Integers in a part of a block. -/
theorem holds_ints {W : World} {σ : Nat → Value} {ρ : Rho} {g : Nat} {k : IntKind} {zs : List Int} {a : Addr} {L : Eng.Loc} (h : ∃ c t fr, W.heap[a.block]? = some (.cells c t fr) ∧ a.off + zs.length ≤ c.size ∧ (c.toList.drop a.off).take zs.length = zs.map (Value.int k))
    (hL : L = ⟨a.block, a.off, zs.length⟩) : Holds ρ σ W ⟨g, zs.map (AV.int k), unkT⟩ L := by
  obtain ⟨c, t, fr, h1, h2, h3⟩ := h
  subst hL
  refine ⟨c, t, fr, h1, fun h => absurd rfl h, fun h => absurd (show unkT < tailN from h) (by unfold unkT tailN; omega), ?_, by show (zs.map (AV.int k)).length ≤ zs.length; simp, h2⟩
  show VRs ρ σ (zs.map (AV.int k)) ((c.toList.drop a.off).take (zs.map (AV.int k)).length)
  rw [List.length_map, h3]
  exact ints_rel zs
end Go.Proofs.YtddeekefomhbmaaGreatDoor

/-! Where the listed variables read as the program lays them, the engine's state of the variables holds. -/
namespace Go.Proofs.YtddeekefomhbmaaGreatDoor
open Go Go.Eng Go.RowKit
set_option maxRecDepth 100000

abbrev Tryz.laid : List (String × DataW Unit) := Rows.grammarMoreRow.laid

theorem maxLen_laid {W : World} (hs : W.ShapedOpen Tryz.prog) : ∃ m fr, W.heap[6]? = some (.cells #[.int .i64 m] 3 fr) := by
  have h0 : ((begin Tryz.prog (fun _ _ => 0) default).world.heap[6]?).bind Obj.row? = some (#[.int .i64 0], 3) := by kernel_rfl
  have hlt : 6 < Tryz.prog.globals.size := of_decide_eq_true (by kernel_rfl)
  obtain ⟨m, hm⟩ := Go.Proofs.cell_of_shapedOpen_int (P := Tryz.prog) (g := 6) (zero := #[.int .i64 0]) (t := 3) hs hlt h0 rfl (by kernel_rfl) (by kernel_rfl) Tryz.underlying3
  obtain ⟨cs, hh, hsz, _⟩ := hs.1 6 #[.int .i64 0] 3 hlt h0
  rw [cell_at hh] at hm
  have hsz : cs.size = 1 := hsz
  have : cs = #[.int .i64 m] := by
    apply Array.ext
    · exact hsz
    · intro i h1 h2
      have : i = 0 := by omega
      subst this
      have := (Array.getElem?_eq_some_iff.1 hm).2
      simpa using this
  subst this
  exact ⟨m, _, hh⟩

/-- The variables' state, wherever they lie as laid. -/
theorem vars_laid {W : World} (h : laidMet Tryz.prog Tryz.laid W) (hs : W.ShapedOpen Tryz.prog) : ∃ m, ∀ σ : Nat → Value, σ 900 = .int .i64 m → ∃ ρ, R (.at W.heap.size) ρ σ (stOf gl) W := by
  obtain ⟨m, frm, hmax⟩ := maxLen_laid hs
  refine ⟨m, fun σ hσ => ?_⟩
  let loc : Nat → Eng.Loc := fun i => ⟨i, 0, match gl.find? (fun x => Nat.beq x.g i) with | some x => x.cs.length | none => 0⟩
  refine ⟨_, R.init' (σ := σ) (w := W) glOK loc (fun g hg => ⟨rfl, rfl⟩) (fun x hx => ?_)⟩
  · have pv : ∀ {nm : String} {d : DataW Unit} {g t el : Nat}, (nm, d) ∈ Tryz.laid → Tryz.prog.globalNamed nm = some g → (Tryz.prog.globals[g]?).map (·.type) = some t → okT Tryz.prog 4 t = true → g < Tryz.prog.globals.size →
        (((begin Tryz.prog (fun _ _ => 0) default).world.heap[g]?).bind Obj.row?).map (·.2) = some el → ∃ c fr, W.heap[g]? = some (.cells c el fr) ∧ VRs (fun _ => none) σ (flatD d) c.toList :=
      fun h1 h2 h3 h4 h5 h6 => plain_var h hs h1 h2 h3 4 h4 h5 h6
    have ml : ∀ {nm : String} {d : DataW Unit}, (nm, d) ∈ Rows.grammarMoreRow.laid → (nm, d) ∈ Tryz.laid := fun h => h
    simp only [Rows.grammarMoreRow] at ml
    have hlen : ∀ x ∈ gl, loc x.g = ⟨x.g, 0, x.cs.length⟩ := by
      intro x hx
      show (⟨x.g, 0, match gl.find? (fun y => Nat.beq y.g x.g) with | some y => y.cs.length | none => 0⟩ : Eng.Loc) = _
      have hall : allB (fun x => Nat.beq (match gl.find? (fun y => Nat.beq y.g x.g) with | some y => len y.cs | none => 0) (len x.cs)) gl = true := by kernel_rfl
      have := Nat.eq_of_beq_eq_true (allB_spec hall x hx)
      cases hfd : gl.find? (fun y => Nat.beq y.g x.g) with
      | none => rw [hfd] at this; simp only [len_eq] at this ⊢; rw [this]
      | some y => rw [hfd] at this; simp only [len_eq] at this ⊢; rw [this]
    have hl := hlen x hx
    simp only [gl, List.mem_cons, List.mem_nil_iff, or_false] at hx
    rcases hx with rfl | rfl | rfl | rfl | rfl | rfl | rfl | rfl | rfl | rfl | rfl | rfl
    · exact holds_plain (allB_spec (p := plainA) (by kernel_rfl)) (Nat.le_of_ble_eq_true (by kernel_rfl)) (pv (nm := "kalends/rfc.freqs") (ml (by simp)) (by kernel_rfl) (t := 211) (by kernel_rfl) (by kernel_rfl) (Nat.le_of_ble_eq_true (by kernel_rfl)) (by kernel_rfl)) hl
    · exact holds_plain (allB_spec (p := plainA) (by kernel_rfl)) (Nat.le_of_ble_eq_true (by kernel_rfl)) (pv (nm := "kalends/table.many") (ml (by simp)) (by kernel_rfl) (t := 238) (by kernel_rfl) (by kernel_rfl) (Nat.le_of_ble_eq_true (by kernel_rfl)) (by kernel_rfl)) hl
    · exact holds_plain (allB_spec (p := plainA) (by kernel_rfl)) (Nat.le_of_ble_eq_true (by kernel_rfl)) (pv (nm := "kalends/rfc.weekdays") (ml (by simp)) (by kernel_rfl) (t := 297) (by kernel_rfl) (by kernel_rfl) (Nat.le_of_ble_eq_true (by kernel_rfl)) (by kernel_rfl)) hl
    · exact holds_plain (allB_spec (p := plainA) (by kernel_rfl)) (Nat.le_of_ble_eq_true (by kernel_rfl)) (pv (nm := "kalends/civil.months") (ml (by simp)) (by kernel_rfl) (t := 351) (by kernel_rfl) (by kernel_rfl) (Nat.le_of_ble_eq_true (by kernel_rfl)) (by kernel_rfl)) hl
    · exact holds_plain (allB_spec (p := plainA) (by kernel_rfl)) (Nat.le_of_ble_eq_true (by kernel_rfl)) (pv (nm := "unicode/utf8.first") (ml (by simp)) (by kernel_rfl) (t := 353) (by kernel_rfl) (by kernel_rfl) (Nat.le_of_ble_eq_true (by kernel_rfl)) (by kernel_rfl)) hl
    · exact holds_plain (allB_spec (p := plainA) (by kernel_rfl)) (Nat.le_of_ble_eq_true (by kernel_rfl)) (pv (nm := "unicode/utf8.acceptRanges") (ml (by simp)) (by kernel_rfl) (t := 356) (by kernel_rfl) (by kernel_rfl) (Nat.le_of_ble_eq_true (by kernel_rfl)) (by kernel_rfl)) hl
    · exact holds_plain (allB_spec (p := plainA) (by kernel_rfl)) (Nat.le_of_ble_eq_true (by kernel_rfl)) ⟨_, frm, hmax, _, _, rfl, ⟨hσ.symm, rfl⟩, rfl⟩ hl
    · exact holds_plain (allB_spec (p := plainA) (by kernel_rfl)) (Nat.le_of_ble_eq_true (by kernel_rfl)) (iface_var (nm := "strconv.ErrSyntax") (t := 222) h hs (D := Rows.laid_strconv_ErrSyntax) (ml (by simp)) rfl (by kernel_rfl) (by kernel_rfl) Tryz.underlying222 (Nat.le_of_ble_eq_true (by kernel_rfl)) (by kernel_rfl)) hl
    · exact holds_plain (allB_spec (p := plainA) (by kernel_rfl)) (Nat.le_of_ble_eq_true (by kernel_rfl)) (iface_var (nm := "strconv.ErrRange") (t := 222) h hs (D := Rows.laid_strconv_ErrRange) (ml (by simp)) rfl (by kernel_rfl) (by kernel_rfl) Tryz.underlying222 (Nat.le_of_ble_eq_true (by kernel_rfl)) (by kernel_rfl)) hl
    · exact holds_plain (allB_spec (p := plainA) (by kernel_rfl)) (Nat.le_of_ble_eq_true (by kernel_rfl)) (pv (nm := "internal/strconv.uint64pow10") (ml (by simp)) (by kernel_rfl) (t := 394) (by kernel_rfl) (by kernel_rfl) (Nat.le_of_ble_eq_true (by kernel_rfl)) (by kernel_rfl)) hl
    · exact holds_plain (allB_spec (p := plainA) (by kernel_rfl)) (Nat.le_of_ble_eq_true (by kernel_rfl)) (pv (nm := "math/bits.deBruijn32tab") (ml (by simp)) (by kernel_rfl) (t := 432) (by kernel_rfl) (by kernel_rfl) (Nat.le_of_ble_eq_true (by kernel_rfl)) (by kernel_rfl)) hl
    · exact holds_plain (allB_spec (p := plainA) (by kernel_rfl)) (Nat.le_of_ble_eq_true (by kernel_rfl)) (pv (nm := "math/bits.deBruijn64tab") (ml (by simp)) (by kernel_rfl) (t := 433) (by kernel_rfl) (by kernel_rfl) (Nat.le_of_ble_eq_true (by kernel_rfl)) (by kernel_rfl)) hl
end Go.Proofs.YtddeekefomhbmaaGreatDoor
