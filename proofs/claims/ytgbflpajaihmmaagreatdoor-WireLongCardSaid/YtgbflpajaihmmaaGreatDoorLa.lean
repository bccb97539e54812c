/- From the row's condition on variables to the cells that the engine reads. No condition. -/
import Derived.Test.YtgbflpajaihmmaaGreatDoorRa
import Derived.ProofKit
import Derived.OpenShut
import Derived.LaidMore
import Derived.Lay
import Derived.Stop.Joined
namespace Go.Proofs.YtgbflpajaihmmaaGreatDoor
open Go Go.Eng Go.RowKit

section
variable {P : Program} {W : World} {ρ : Rho} {σ : Nat → Value}

/-- Places one behind the other. -/
def consec {α : Type} (off sz : α → Nat) : List α → Nat → Nat → Prop
  | [], o, e => o = e
  | a :: l, o, e => off a = o ∧ consec off sz l (o + sz a) e

theorem consec_le {α : Type} {off sz : α → Nat} : ∀ {l : List α} {o e : Nat}, consec off sz l o e → o ≤ e
  | [], _, _, h => Nat.le_of_eq h
  | _ :: _, _, _, ⟨_, h⟩ => Nat.le_trans (Nat.le_add_right _ _) (consec_le h)

theorem take_split {α : Type} (l : List α) (o z e : Nat) (h : o + z ≤ e) : (l.drop o).take (e - o) = (l.drop o).take z ++ (l.drop (o + z)).take (e - (o + z)) := by
  have : e - o = z + (e - (o + z)) := by omega
  rw [this, List.take_add, List.drop_drop]

theorem pieces {α : Type} {f : α → Option (DataW Unit × List MemPlace)} {off sz : α → Nat} {cs : List Value} : ∀ (l : List α) (xs : List (DataW Unit × List MemPlace)) (o e : Nat), l.mapM f = some xs → consec off sz l o e →
    (∀ a ∈ l, ∀ x, f a = some x → VRs ρ σ (flatD x.1) ((cs.drop (off a)).take (sz a))) → VRs ρ σ (flatDs (xs.map (·.1))) ((cs.drop o).take (e - o))
  | [], xs, o, e, h, hc, _ => by
    simp at h; subst h
    have : o = e := hc
    subst this
    simp [flatDs, VRs]
  | a :: l, xs, o, e, h, ⟨h1, h2⟩, H => by
    rw [List.mapM_cons] at h
    obtain ⟨y, hy, h⟩ := Option.bind_eq_some_iff.1 h
    obtain ⟨ys, hys, h⟩ := Option.bind_eq_some_iff.1 h
    cases h
    subst h1
    have ih := pieces l ys _ e hys h2 (fun b hb => H b (by simp [hb]))
    rw [take_split cs (off a) (sz a) e (consec_le h2), List.map_cons]
    unfold flatDs
    exact (H a (by simp) y hy).append ih

theorem consec_range (z : Nat) : ∀ (m s : Nat), consec (fun i => i * z) (fun _ => z) (List.range' s m) (s * z) ((s + m) * z)
  | 0, s => rfl
  | m + 1, s => by
    refine ⟨rfl, ?_⟩
    have h := consec_range z m (s + 1)
    have e1 : (s + 1) * z = s * z + z := Nat.succ_mul s z
    have e2 : s + 1 + m = s + (m + 1) := by omega
    rw [e1, e2] at h
    exact h

/-- Fields one behind the other, each plain. -/
def okFs (P : Program) (ok : TypeId → Bool) : List Field → Nat → Nat → Bool
  | [], o, e => Nat.beq o e
  | f :: l, o, e => Nat.beq f.offset o && ok f.type && okFs P ok l (o + P.cellsOf f.type) e
/-- A type of numbers, bools and strings, arrays and structs of such. -/
def okT (P : Program) : Nat → TypeId → Bool
  | 0, _ => false
  | n + 1, t => match P.underlying t with
    | some (.int _) => true
    | some .string => true
    | some .bool => true
    | some (.array m e) => okT P n e && Nat.beq (P.cellsOf t) (m * P.cellsOf e)
    | some (.struct fs) => okFs P (okT P n) fs.toList 0 (P.cellsOf t)
    | _ => false

theorem okFs_spec {ok : TypeId → Bool} : ∀ {l : List Field} {o e : Nat}, okFs P ok l o e = true → consec (fun f : Field => f.offset) (fun f => P.cellsOf f.type) l o e ∧ ∀ f ∈ l, ok f.type = true
  | [], o, e, h => ⟨Nat.eq_of_beq_eq_true h, fun _ h => by cases h⟩
  | f :: l, o, e, h => by
    simp only [okFs, Bool.and_eq_true] at h
    obtain ⟨⟨h1, h2⟩, h3⟩ := h
    obtain ⟨h4, h5⟩ := okFs_spec h3
    refine ⟨⟨Nat.eq_of_beq_eq_true h1, h4⟩, fun g hg => ?_⟩
    rcases List.mem_cons.1 hg with rfl | hg
    · exact h2
    · exact h5 g hg

/-- WHAT READS AS PLAIN DATA HOLDS THEM, CELL FOR CELL. -/
theorem flat_trod {enc : TypeId × Value → Unit} {b : Nat} {sp : Nat → Bool} {hd : Bool} : ∀ (n : Nat) (t : TypeId), okT P n t = true → ∀ (fuel : Nat) (cs : List Value) (x : DataW Unit × List MemPlace), DataW.trod enc P W b sp hd fuel t cs = some x → VRs ρ σ (flatD x.1) cs
  | 0, _, h, _, _, _, _ => by cases h
  | n + 1, t, h, 0, cs, x, hx => by simp [DataW.trod] at hx
  | n + 1, t, h, fuel + 1, cs, x, hx => by
    unfold okT at h
    unfold DataW.trod at hx
    cases hu : P.underlying t with
    | none => rw [hu] at h; cases h
    | some u =>
      rw [hu] at h hx
      cases u <;> simp only [Bool.false_eq_true] at h
      case bool =>
        split at hx <;> first | (cases hx; simp [flatD, VRs, VR]; done) | (cases hx; done) | (simp_all; done)
      case int k =>
        split at hx <;> first | cases hx | skip
        all_goals simp_all
        obtain ⟨_, rfl⟩ := hx
        simp [flatD, VRs, VR]
      case string =>
        split at hx <;> first | cases hx | skip
        all_goals simp_all
        obtain ⟨_, rfl⟩ := hx
        simp [flatD, VRs, VR, bytesNat]
      case array m e =>
        simp only [Bool.and_eq_true] at h
        have hm := Nat.eq_of_beq_eq_true h.2
        simp only at hx
        split at hx
        case isFalse => cases hx
        rename_i hl
        obtain ⟨xs, hxs, rfl⟩ := Option.map_eq_some_iff.1 hx
        have hc := consec_range (P.cellsOf e) m 0
        rw [Nat.zero_mul, Nat.zero_add] at hc
        rw [List.range_eq_range'] at hxs
        have := pieces (ρ := ρ) (σ := σ) (cs := cs) _ xs 0 (m * P.cellsOf e) hxs hc (fun a _ y hy => flat_trod n e h.1 fuel _ y hy)
        rw [Nat.sub_zero, List.drop_zero, ← hm, ← hl, List.take_length] at this
        simp only [flatD]
        exact this
      case struct fs =>
        obtain ⟨h1, h2⟩ := okFs_spec h
        simp only at hx
        split at hx
        case isFalse => cases hx
        rename_i hl
        obtain ⟨xs, hxs, rfl⟩ := Option.map_eq_some_iff.1 hx
        have := pieces (ρ := ρ) (σ := σ) (cs := cs) _ xs 0 (P.cellsOf t) hxs h1 (fun a ha y hy => flat_trod n a.type (h2 a ha) fuel _ y hy)
        rw [Nat.sub_zero, List.drop_zero, ← hl, List.take_length] at this
        simp only [flatD]
        exact this

theorem laid_at {l : List (String × DataW Unit)} {ps : List MemPlace} (h : DataW.LaidVars P W l ps) : ∀ x ∈ l, ∃ g t cs fuel p, P.globalNamed x.1 = some g ∧ (P.globals[g]?).map (·.type) = some t ∧ W.var? P x.1 = some cs ∧
    DataW.trod (fun _ => ()) P W 0 (fun _ => true) false fuel t cs.toList = some (x.2, p) := by
  induction l generalizing ps with
  | nil => intro x hx; cases hx
  | cons y l ih =>
    obtain ⟨n, d⟩ := y
    obtain ⟨g, t, cs, fuel, p, q, h1, h2, h3, h4, h5, _⟩ := h
    intro x hx
    rcases List.mem_cons.1 hx with rfl | hx
    · exact ⟨g, t, cs, fuel, p, h1, h2, h3, h4⟩
    · exact ih h5 x hx

/-- What a variable of plain data holds. -/
theorem plain_var {l : List (String × DataW Unit)} (h : laidMet P l W) (hs : W.ShapedOpen P) {nm : String} {d : DataW Unit} (hm : (nm, d) ∈ l) {g t el : Nat} (hg : P.globalNamed nm = some g) (ht : (P.globals[g]?).map (·.type) = some t) (n : Nat) (hok : okT P n t = true)
    (hlt : g < P.globals.size) (hel : (((begin P (fun _ _ => 0) default).world.heap[g]?).bind Obj.row?).map (·.2) = some el) : ∃ c fr, W.heap[g]? = some (.cells c el fr) ∧ VRs ρ σ (flatD d) c.toList := by
  obtain ⟨ps, hl, _⟩ := h
  obtain ⟨g', t', cs, fuel, p, h1, h2, h3, h4⟩ := laid_at hl _ hm
  obtain rfl := Option.some.inj (hg.symm.trans h1)
  obtain rfl := Option.some.inj (ht.symm.trans h2)
  have hv := flat_trod (ρ := ρ) (σ := σ) n t hok fuel _ _ h4
  obtain ⟨⟨zero, el'⟩, hz, he⟩ := Option.map_eq_some_iff.1 hel
  obtain ⟨cs2, hc, _⟩ := hs.1 g zero el' hlt hz
  unfold World.var? at h3
  rw [h1] at h3
  simp only [Option.bind_some, hc, Option.some.injEq] at h3
  subst h3
  have he : el' = el := he
  subst he
  exact ⟨_, _, hc, hv⟩

/-- What a variable of an interface type holds: one cell. -/
theorem iface_var {l : List (String × DataW Unit)} (h : laidMet P l W) (hs : W.ShapedOpen P) {nm ty : String} {D d : DataW Unit} (hm : (nm, D) ∈ l) (hD : D = .iface ty d) {g t el : Nat} (hg : P.globalNamed nm = some g) (ht : (P.globals[g]?).map (·.type) = some t) {ms : Array (String × TypeId)} (hu : P.underlying t = some (.interface ms))
    (hlt : g < P.globals.size) (hel : (((begin P (fun _ _ => 0) default).world.heap[g]?).bind Obj.row?).map (·.2) = some el) : ∃ c fr, W.heap[g]? = some (.cells c el fr) ∧ VRs ρ σ [.unk] c.toList := by
  subst hD
  obtain ⟨ps, hl, _⟩ := h
  obtain ⟨g', t', cs, fuel, p, h1, h2, h3, h4⟩ := laid_at hl _ hm
  obtain rfl := Option.some.inj (hg.symm.trans h1)
  obtain rfl := Option.some.inj (ht.symm.trans h2)
  have hv : VRs ρ σ [.unk] cs.toList := by
    cases fuel with
    | zero => simp [DataW.trod] at h4
    | succ fuel =>
      unfold DataW.trod at h4
      rw [hu] at h4
      simp only at h4
      split at h4 <;> first | (simp at h4; done) | (rename_i heq _; cases heq; done) | (rename_i heq; cases heq; done) | (simp_all; done) | skip
      rename_i hcs
      rw [hcs]
      exact ⟨_, _, rfl, rfl, rfl⟩
  obtain ⟨⟨zero, el'⟩, hz, he⟩ := Option.map_eq_some_iff.1 hel
  obtain ⟨cs2, hc, _⟩ := hs.1 g zero el' hlt hz
  unfold World.var? at h3
  rw [h1] at h3
  simp only [Option.bind_some, hc, Option.some.injEq] at h3
  subst h3
  have he : el' = el := he
  subst he
  exact ⟨_, _, hc, hv⟩
end
end Go.Proofs.YtgbflpajaihmmaaGreatDoor
