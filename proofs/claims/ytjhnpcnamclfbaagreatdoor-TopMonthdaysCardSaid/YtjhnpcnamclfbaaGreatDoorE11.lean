/- The engine: an abstract machine that runs closed code of any program, and its proof: part 11 of 14. No condition. -/
import Derived.Test.YtjhnpcnamclfbaaGreatDoorE10
/-! The engine's known calls that hand back memory: an image. No condition. -/
namespace Go.Eng
open Go.RowKit
noncomputable section

/-! ### Names, one for another -/
def renN (f : Nat → Nat) (i : Nat) : Nat := match Nat.blt i gN with | true => i | false => f (Nat.sub i gN)
mutual
def ren (f : Nat → Nat) : AV → AV
  | .ptr i o => .ptr (renN f i) o
  | .slice i o n c z => .slice (renN f i) o n c z
  | .map i => .map (renN f i)
  | .func g a b => .func g (rens f a) (rens f b)
  | .yield i => .yield (renN f i)
  | .iface t x => .iface t (ren f x)
  | .agg l => .agg (rens f l)
  | .tuple l => .tuple (rens f l)
  | .bool b => .bool b
  | .int k n => .int k n
  | .str s => .str s
  | .nilptr => .nilptr
  | .nilslice => .nilslice
  | .nilmap => .nilmap
  | .nilFunc => .nilFunc
  | .nilIface => .nilIface
  | .unk => .unk
  | .sym i => .sym i
  | .any => .any
def rens (f : Nat → Nat) : List AV → List AV
  | [] => []
  | a :: l => ren f a :: rens f l
end
def renM (f : Nat → Nat) : List (AV × AV × Nat) → List (AV × AV × Nat)
  | [] => []
  | (k, v, b) :: l => (ren f k, ren f v, b) :: renM f l
/-- A block of cells or a map, its names others. -/
def renB (f : Nat → Nat) : Blk → Option Blk
  | .cells cs el wr => some (.cells (rens f cs) el wr)
  | .map es k => some (.map (renM f es) k)
  | _ => none

section
variable {ρ1 ρ2 : Rho} {σ : Nat → Value} {f g : Nat → Nat}
mutual
theorem VR_ren (h : ∀ i L, ρ1 (renN f i) = some L → ρ2 (renN g i) = some L) : ∀ (a : AV) (v : Value), VR ρ1 σ (ren f a) v → VR ρ2 σ (ren g a) v
  | .ptr _ _, _, ⟨L, hL, e⟩ => ⟨L, h _ _ hL, e⟩
  | .slice _ _ _ _ _, _, ⟨L, a, c, hL, r⟩ => ⟨L, a, c, h _ _ hL, r⟩
  | .map _, _, ⟨L, hL, e⟩ => ⟨L, h _ _ hL, e⟩
  | .func _ a b, _, ⟨va, vb, e, h1, h2⟩ => ⟨va, vb, e, VRs_ren h a _ h1, VRs_ren h b _ h2⟩
  | .yield _, _, ⟨L, hL, e⟩ => ⟨L, h _ _ hL, e⟩
  | .iface _ x, _, ⟨u, e, hu⟩ => ⟨u, e, VR_ren h x u hu⟩
  | .agg l, _, ⟨vs, e, hv⟩ => ⟨vs, e, VRs_ren h l _ hv⟩
  | .tuple l, _, ⟨vs, e, hv⟩ => ⟨vs, e, VRs_ren h l _ hv⟩
  | .bool _, _, e => e
  | .int _ _, _, e => e
  | .str _, _, e => e
  | .nilptr, _, e => e
  | .nilslice, _, e => e
  | .nilmap, _, e => e
  | .nilFunc, _, e => e
  | .nilIface, _, e => e
  | .unk, _, e => e
  | .sym _, _, e => e
  | .any, _, e => e
theorem VRs_ren (h : ∀ i L, ρ1 (renN f i) = some L → ρ2 (renN g i) = some L) : ∀ (l : List AV) (vs : List Value), VRs ρ1 σ (rens f l) vs → VRs ρ2 σ (rens g l) vs
  | [], _, e => e
  | a :: l, _, ⟨v, r, e, ha, hl⟩ => ⟨v, r, e, VR_ren h a v ha, VRs_ren h l r hl⟩
end
theorem rens_length (f : Nat → Nat) : ∀ l : List AV, (rens f l).length = l.length
  | [] => rfl
  | a :: l => by unfold rens; simp [rens_length f l]
theorem MR_ren (h : ∀ i L, ρ1 (renN f i) = some L → ρ2 (renN g i) = some L) : ∀ (l : List (AV × AV × Nat)) (es : List MapEntry), MR ρ1 σ (renM f l) es → MR ρ2 σ (renM g l) es
  | [], _, e => e
  | (k, v, _) :: l, _, ⟨e, r, he, hk, hv, hb, hl⟩ => ⟨e, r, he, VR_ren h k _ hk, VR_ren h v _ hv, hb, MR_ren h l r hl⟩
theorem BO_ren (h : ∀ i L, ρ1 (renN f i) = some L → ρ2 (renN g i) = some L) {b b1 b2 : Blk} (h1 : renB f b = some b1) (h2 : renB g b = some b2) {L : Loc} {ob : Obj} (hb : BO ρ1 σ L b1 ob) : BO ρ2 σ L b2 ob := by
  cases b with
  | cells cs el wr =>
    cases h1; cases h2
    obtain ⟨c, t, fr, e, ht, z, hv, r⟩ := hb
    rw [rens_length] at hv r
    refine ⟨c, t, fr, e, ht, z, ?_, ?_⟩
    · rw [rens_length]; exact VRs_ren h _ _ hv
    · rw [rens_length]; exact r
  | map es k =>
    cases h1; cases h2
    obtain ⟨z, m, e, hm⟩ := hb
    exact ⟨z, m, e, MR_ren h _ _ hm⟩
  | siter _ _ => cases h1
  | miter _ _ _ _ => cases h1
  | loop _ _ _ _ _ _ _ _ _ => cases h1
  | deferred _ => cases h1
end

/-! ### An image -/
/-- A value and the blocks that it comes to: number j of them has the name 'gN + j' in it. -/
structure Img where
  v : AV
  bs : List Blk

def putB (f : Nat → Nat) : List Blk → St → Option St
  | [], s => some s
  | b :: l, s => match renB f b with
    | some x => match s.new x with
      | some (_, s') => putB f l s'
      | none => none
    | none => none

/-- An image, laid where the state's names end. -/
def place (i : Img) (s : St) : Option (AV × St) :=
  match s with
  | ⟨N, h⟩ => match putB (fun j => Nat.add N j) i.bs ⟨N, h⟩ with
    | some s' => some (ren (fun j => Nat.add N j) i.v, s')
    | none => none

def mEq : List (AV × AV × Nat) → List (AV × AV × Nat) → Bool
  | [], [] => true
  | (k, v, b) :: l, (k', v', b') :: l' => avEq k k' && avEq v v' && Nat.beq b b' && mEq l l'
  | _, _ => false
def blkEq : Blk → Blk → Bool
  | .cells a t w, .cells b u x => avEqs a b && Nat.beq t u && (w == x)
  | .map a k, .map b l => mEq a b && Nat.beq k l
  | _, _ => false

theorem mEq_eq : ∀ {a b : List (AV × AV × Nat)}, mEq a b = true → a = b
  | [], [], _ => rfl
  | (k, v, b) :: l, (k', v', b') :: l', h => by
    unfold mEq at h
    simp only [Bool.and_eq_true] at h
    obtain ⟨⟨⟨h1, h2⟩, h3⟩, h4⟩ := h
    rw [avEq_eq _ _ h1, avEq_eq _ _ h2, Nat.eq_of_beq_eq_true h3, mEq_eq h4]
  | [], _ :: _, h => by cases h
  | _ :: _, [], h => by cases h
theorem blkEq_eq {a b : Blk} (h : blkEq a b = true) : a = b := by
  cases a <;> cases b <;> first | (cases h; done) | skip
  · simp only [blkEq, Bool.and_eq_true, beq_iff_eq] at h
    obtain ⟨⟨h1, h2⟩, h3⟩ := h
    rw [avEqs_eq _ _ h1, Nat.eq_of_beq_eq_true h2, h3]
  · simp only [blkEq, Bool.and_eq_true] at h
    rw [mEq_eq h.1, Nat.eq_of_beq_eq_true h.2]

/-- No block has this name. -/
def badN : Nat := T.most + 5
def nameOf (m : List Nat) (j : Nat) : Nat := match nth m j with | some x => x | none => badN

def chkL (f : Nat → Nat) (s : St) : List Nat → List Blk → Bool
  | [], [] => true
  | i :: m, b :: bs => (match s.get i with
    | some x => match renB f b with
      | some y => blkEq y x
      | none => false
    | none => false) && Nat.ble gN i && !memN i m && chkL f s m bs
  | _, _ => false

/-- The engine's run of a call without arguments comes to an image, its blocks by these names. -/
def imgRun (E : Env) (gl : List Gv) (f : FuncId) (n : Nat) (m : List Nat) (i : Img) : Bool :=
  match callN E (stOf gl) f [] n with
  | some (x, s) => avEq (ren (nameOf m) i.v) x && chkL (nameOf m) s m i.bs
  | none => false

theorem chkL_spec {f : Nat → Nat} {s : St} : ∀ {m : List Nat} {bs : List Blk}, chkL f s m bs = true →
    m.length = bs.length ∧ (∀ (j i : Nat) (b : Blk), m[j]? = some i → bs[j]? = some b → gN ≤ i ∧ ∃ y, renB f b = some y ∧ s.get i = some y) ∧ m.Nodup
  | [], [], _ => ⟨rfl, fun j i b h => by simp at h, .nil⟩
  | i :: m, b :: bs, h => by
    unfold chkL at h
    simp only [Bool.and_eq_true, Bool.not_eq_true'] at h
    obtain ⟨⟨⟨h1, h2⟩, h3⟩, h4⟩ := h
    obtain ⟨e1, e2, e3⟩ := chkL_spec h4
    refine ⟨by simp [e1], fun j i' b' hi hb => ?_, ?_⟩
    · cases j with
      | zero =>
        simp only [List.getElem?_cons_zero, Option.some.injEq] at hi hb
        subst hi; subst hb
        refine ⟨Nat.le_of_ble_eq_true h2, ?_⟩
        split at h1
        · rename_i x hx
          split at h1
          · rename_i y hy
            rw [← blkEq_eq h1] at hx
            exact ⟨y, hy, hx⟩
          · cases h1
        · cases h1
      | succ j => simp only [List.getElem?_cons_succ] at hi hb; exact e2 j i' b' hi hb
    · refine List.nodup_cons.2 ⟨fun hm => ?_, e3⟩
      have : ∀ {l : List Nat}, i ∈ l → memN i l = true := fun {l} hl => by
        induction l with
        | nil => cases hl
        | cons a l ih =>
          unfold memN
          rcases List.mem_cons.1 hl with rfl | hl
          · simp
          · simp [ih hl]
      rw [this hm] at h3; cases h3
  | [], _ :: _, h => by cases h
  | _ :: _, [], h => by cases h

theorem putB_spec {f : Nat → Nat} : ∀ {bs : List Blk} {s s' : St}, putB f bs s = some s' → 0 < s.next → s.next ≤ T.most + 1 →
    s'.next = s.next + bs.length ∧ s'.next ≤ T.most + 1 ∧ (∀ i, i < s.next → s'.get i = s.get i) ∧ ∀ j b, bs[j]? = some b → ∃ y, renB f b = some y ∧ s'.get (s.next + j) = some y
  | [], s, s', h, _, hm => by cases h; exact ⟨rfl, hm, fun _ _ => rfl, fun _ _ h => by simp at h⟩
  | b :: l, s, s', h, hp, _ => by
    unfold putB at h
    split at h
    case h_2 => cases h
    rename_i x hx
    split at h
    case h_2 => cases h
    rename_i i s1 hn
    obtain ⟨rfl, h2, h3, h4, _⟩ := St.new_eq hn
    obtain ⟨e1, e2, e3, e4⟩ := putB_spec h (by omega) (by omega)
    refine ⟨by rw [e1, h3, List.length_cons]; omega, e2, fun i hi => ?_, fun j b' hb => ?_⟩
    · rw [e3 i (by omega), h4, if_neg (by omega)]
    · cases j with
      | zero =>
        simp only [List.getElem?_cons_zero, Option.some.injEq] at hb
        subst hb
        refine ⟨x, hx, ?_⟩
        rw [Nat.add_zero, e3 _ (by omega), h4, if_pos rfl]
      | succ j =>
        simp only [List.getElem?_cons_succ] at hb
        obtain ⟨y, hy, hg⟩ := e4 j b' hb
        refine ⟨y, hy, ?_⟩
        rw [← hg, h3]; congr 1; omega

theorem putB_none {f : Nat → Nat} : ∀ {bs : List Blk} {s s' : St}, putB f bs s = some s' → 0 < s.next → s.next ≤ T.most + 1 → ∀ i, s.next + bs.length ≤ i → s'.get i = s.get i
  | [], s, s', h, _, _, i, _ => by cases h; rfl
  | b :: l, s, s', h, hp, _, i, hi => by
    unfold putB at h
    split at h
    case h_2 => cases h
    rename_i x hx
    split at h
    case h_2 => cases h
    rename_i i' s1 hn
    obtain ⟨rfl, h2, h3, h4, _⟩ := St.new_eq hn
    simp only [List.length_cons] at hi
    rw [putB_none h (by omega) (by omega) i (by omega), h4, if_neg (by omega)]

theorem lt_of_list {α : Type} {l : List α} {j : Nat} {x : α} (h : l[j]? = some x) : j < l.length := (List.getElem?_eq_some_iff.1 h).1

/-- An image that a run from the variables alone has come to, laid in another state. -/
theorem R.image {B : Base} {ρ ρ1 : Rho} {σ : Nat → Value} {s s1 s2 : St} {w w' : World} {m : List Nat} {i : Img} {v : AV} {u : Value} (h : R B ρ σ s w) (k : Below w.heap.size w w') (h1 : R (.at w.heap.size) ρ1 σ s1 w')
    (hρ : ∀ g, g < gN → ρ1 g = ρ g) (hu : VR ρ1 σ (ren (nameOf m) i.v) u) (hm : chkL (nameOf m) s1 m i.bs = true) (hp : place i s = some (v, s2)) : ∃ ρ', Ext ρ ρ' ∧ VR ρ' σ v u ∧ R B ρ' σ s2 w' := by
  obtain ⟨N, hp0⟩ := s
  unfold place at hp
  simp only at hp
  split at hp
  case h_2 => cases hp
  rename_i s2' hput
  cases hp
  have hbase : gN ≤ N := h.base
  have hN : N ≤ T.most + 1 := h.most
  have hg0 : 0 < gN := by unfold gN; omega
  obtain ⟨p1, p2, p3, p4⟩ := putB_spec hput (show 0 < N by omega) hN
  obtain ⟨c1, c2, c3⟩ := chkL_spec hm
  replace p1 : s2.next = N + i.bs.length := p1
  replace p3 : ∀ j, j < N → s2.get j = St.get ⟨N, hp0⟩ j := p3
  replace p4 : ∀ j b, i.bs[j]? = some b → ∃ y, renB (fun j => Nat.add N j) b = some y ∧ s2.get (N + j) = some y := p4
  let ρ' : Rho := fun j => if j < N then ρ j else (m[j - N]?).bind ρ1
  have low : ∀ j, j < N → ρ' j = ρ j := fun j hj => by simp [ρ', hj]
  have high : ∀ j, ρ' (N + j) = (m[j]?).bind ρ1 := fun j => by
    have : ¬ N + j < N := by omega
    show (if N + j < N then ρ (N + j) else (m[N + j - N]?).bind ρ1) = _
    rw [if_neg this, Nat.add_sub_cancel_left]
  have hx : Ext ρ ρ' := fun j L hL => by
    rcases Nat.lt_or_ge j N with hj | hj
    · rw [low j hj]; exact hL
    · have : ρ j = none := h.fresh j hj
      rw [this] at hL; cases hL
  have hren : ∀ j L, ρ1 (renN (nameOf m) j) = some L → ρ' (renN (fun j => Nat.add N j) j) = some L := fun j L hL => by
    unfold renN at hL ⊢
    split at hL
    · rename_i hb
      have hj : j < gN := by have : Nat.ble (j + 1) gN = true := hb; exact Nat.le_of_ble_eq_true this
      rw [low j (by omega), ← hρ j hj]; exact hL
    · show ρ' (N + (j - gN)) = some L
      rw [high]
      unfold nameOf at hL
      rw [nth_eq] at hL
      split at hL
      · rename_i x hx; rw [show m[j - gN]? = some x from hx]; exact hL
      · rw [h1.fresh badN (by have := h1.most; unfold badN; omega)] at hL; cases hL
  have kept := h.frame k
  have new : ∀ j b, s2.get j = some b → N ≤ j → ∃ x y, m[j - N]? = some x ∧ i.bs[j - N]? = some y ∧ renB (fun j => Nat.add N j) y = some b ∧ gN ≤ x ∧ ∃ z, renB (nameOf m) y = some z ∧ s1.get x = some z := fun j b hj hge => by
    have hlt : j - N < i.bs.length := by
      rcases Nat.lt_or_ge (j - N) i.bs.length with hc | hc
      · exact hc
      · exfalso
        have : s2.get j = none := by
          have hb := putB_none hput (show 0 < N by omega) hN j (by show N + i.bs.length ≤ j; omega)
          rw [hb]
          cases hg : St.get ⟨N, hp0⟩ j with
          | none => rfl
          | some c => have : j < N := h.lt hg; omega
        rw [this] at hj; cases hj
    obtain ⟨y, hy⟩ : ∃ y, i.bs[j - N]? = some y := ⟨_, List.getElem?_eq_getElem hlt⟩
    have hlt' : j - N < m.length := by rw [c1]; exact hlt
    obtain ⟨x, hxx⟩ : ∃ x, m[j - N]? = some x := ⟨_, List.getElem?_eq_getElem hlt'⟩
    obtain ⟨q1, q2⟩ := c2 _ _ _ hxx hy
    obtain ⟨z, hz, hg⟩ := p4 _ _ hy
    rw [show N + (j - N) = j by omega, hj] at hg
    cases hg
    exact ⟨x, y, hxx, hy, hz, q1, q2⟩
  have old : ∀ j b, s2.get j = some b → j < N → St.get ⟨N, hp0⟩ j = some b := fun j b hj hlt => by rw [p3 j hlt] at hj; exact hj
  refine ⟨ρ', hx, VR_ren hren _ _ hu, ⟨fun j hj => ?_, by rw [p1]; omega, p2, fun j b hj => ?_, fun j b hv => ?_, fun a c b b' L L' hga ha hc hne hL hL' => ?_, fun j b L hj hL hgj => ?_, fun j b hj hlt => ?_, fun g hg => ?_, kept.size, h.nd⟩⟩
  · rw [p1] at hj
    have : j = N + (j - N) := by omega
    rw [this, high, List.getElem?_eq_none (by omega)]; rfl
  · rcases Nat.lt_or_ge j N with hlt | hge
    · rcases kept.live j b (old j b hj hlt) with ⟨h2, h3⟩ | ⟨L, ob, hL, hob, hb⟩
      · exact .inl ⟨by rw [low j hlt]; exact h2, h3⟩
      · exact .inr ⟨L, ob, by rw [low j hlt]; exact hL, hob, hb.ext hx⟩
    · obtain ⟨x, y, e1, e2, e3, e4, z, e5, e6⟩ := new j b hj hge
      rcases h1.live x z e6 with ⟨_, hv⟩ | ⟨L, ob, hL, hob, hb⟩
      · rw [Base.at_get] at hv; cases hv
      refine .inr ⟨L, ob, ?_, hob, BO_ren hren e5 e3 hb⟩
      have : j = N + (j - N) := by omega
      rw [this, high, e1]; exact hL
  · obtain ⟨h2, h3, h4, h5⟩ := h.virt j b hv
    have h4 : j < N := h4
    exact ⟨by rw [p3 j h4]; exact h2, by rw [low j h4]; exact h3, by rw [p1]; omega, h5⟩
  · have loc : ∀ a b L, s2.get a = some b → ρ' a = some L → (a < N → L.blk < w.heap.size) ∧ (N ≤ a → w.heap.size ≤ L.blk) := fun a b L ha hL => by
      refine ⟨fun hlt => ?_, fun hge => ?_⟩
      · rw [low a hlt] at hL
        obtain ⟨ob, hob, _⟩ := h.here (old a b ha hlt) hL
        exact lt_of_get hob
      · obtain ⟨x, y, e1, e2, e3, e4, z, e5, e6⟩ := new a b ha hge
        rw [show a = N + (a - N) by omega, high, e1] at hL
        exact Nat.le_of_not_lt (h1.own x z L e6 hL e4)
    obtain ⟨la1, la2⟩ := loc a b L ha hL
    obtain ⟨lc1, lc2⟩ := loc c b' L' hc hL'
    rcases Nat.lt_or_ge a N with hla | hga
    · rcases Nat.lt_or_ge c N with hlc | hgc
      · rw [low a hla] at hL; rw [low c hlc] at hL'
        exact h.inj a c b b' L L' hga (old a b ha hla) (old c b' hc hlc) hne hL hL'
      · have := la1 hla; have := lc2 hgc; omega
    · rcases Nat.lt_or_ge c N with hlc | hgc
      · have := la2 hga; have := lc1 hlc; omega
      · obtain ⟨x, y, e1, e2, e3, e4, z, e5, e6⟩ := new a b ha hga
        obtain ⟨x', y', e1', e2', e3', e4', z', e5', e6'⟩ := new c b' hc hgc
        rw [show a = N + (a - N) by omega, high, e1] at hL
        rw [show c = N + (c - N) by omega, high, e1'] at hL'
        refine h1.inj x x' z z' L L' e4 e6 e6' (fun e => ?_) hL hL'
        subst e
        have := (List.getElem?_inj (lt_of_list e1) c3).1 (e1.trans e1'.symm)
        omega
  · rcases Nat.lt_or_ge j N with hlt | hge
    · rw [low j hlt] at hL
      exact h.own j b L (old j b hj hlt) hL hgj
    · obtain ⟨x, y, e1, e2, e3, e4, z, e5, e6⟩ := new j b hj hge
      rw [show j = N + (j - N) by omega, high, e1] at hL
      exact fun hb => h1.own x z L e6 hL e4 (h.size _ hb)
  · exact h.glob j b (old j b hj (by omega)) hlt
  · rw [low g (by omega)]; exact h.vars g hg

/-! ### Known calls -/
/-- In every state that has the variables a call of this function, without arguments, comes to this image. -/
def KnownI (P : Program) (gl : List Gv) (f : FuncId) (i : Img) : Prop :=
  ∀ (B : Base) (ρ : Rho) (σ : Nat → Value) (s : St) (w : World), R B ρ σ s w → hasG gl s = true → ∀ v s', place i s = some (v, s') → Calls P f #[] w (CallPost B ρ σ v s' w)

def findI (f : FuncId) : List (FuncId × Img) → Option Img
  | [] => none
  | (g, v) :: l => match Nat.beq f g with | true => some v | false => findI f l
def memoI (gl : List Gv) (rows : List (FuncId × Img)) (f : FuncId) (args : List AV) (s : St) : Option (AV × St) :=
  match args with
  | [] => match findI f rows with
    | some i => match hasG gl s with
      | true => place i s
      | false => none
    | none => none
  | _ => none

theorem findI_mem {f : FuncId} {v : Img} : ∀ {l : List (FuncId × Img)}, findI f l = some v → (f, v) ∈ l
  | [], h => by cases h
  | (g, u) :: l, h => by
    unfold findI at h
    split at h
    · rename_i hb
      cases h
      rw [Nat.eq_of_beq_eq_true hb]; simp
    · simp [findI_mem h]

theorem MemoOK.ofI {E : Env} {gl : List Gv} {rows : List (FuncId × Img)} (h : ∀ x ∈ rows, KnownI E.P gl x.1 x.2) : ∀ σ, MemoOK { E with memo := memoI gl rows } σ := by
  intro σ f args s v s' hm B ρ w va _ hR hva
  replace hm : memoI gl rows f args s = some (v, s') := hm
  unfold memoI at hm
  split at hm
  case h_2 => cases hm
  split at hm
  case h_2 => cases hm
  rename_i i hf
  split at hm
  case h_2 => cases hm
  rename_i hs
  have e : va = #[] := Array.ext' (by have h : va.toList = [] := hva; simpa using h)
  subst e
  exact h (f, i) (findI_mem hf) B ρ σ s w hR hs v s' hm

theorem KnownI.of {E : Env} (ok : ∀ σ, EnvS E σ) (mo : ∀ σ, MemoOK E σ) {gl : List Gv} (hl : GlOK gl) {f : FuncId} {n : Nat} {m : List Nat} {i : Img} (h : imgRun E gl f n m i = true) (hV : ∀ w, E.V w := by intro _; exact True.intro) : KnownI E.P gl f i := by
  intro B ρ σ s w hR hs v s2 hp cs
  unfold imgRun at h
  split at h
  case h_2 => cases h
  rename_i x s1 hx
  simp only [Bool.and_eq_true] at h
  obtain ⟨he, hc⟩ := h
  have := avEq_eq _ _ he
  subst this
  obtain ⟨e, w', fr, ⟨u, ρ1, rfl, hρ1, hu, hR1, hB⟩, h2⟩ := callN_ok (ok σ) (mo σ) (Hold.all hV _ _) (hR.start hl hs) (args := []) (va := #[]) rfl hx cs
  have hB := hB.at
  obtain ⟨ρ', hx', hv, hR'⟩ := hR.image hB hR1 (fun g hg => by
    obtain ⟨e0, hg0, _⟩ := hR.vars g hg
    rw [hg0]
    exact hρ1 g _ (by simp only [if_pos hg]; exact hg0)) hu hc hp
  exact ⟨_, w', fr, ⟨u, ρ', rfl, hx', hv, hR', ⟨hB.os, hB.tape, hB.output, hB.size, fun k hk => hB.block k (hR.size k hk)⟩⟩, h2⟩

end
end Go.Eng

/-! The engine's runs of calls with plain arguments. No condition. -/
namespace Go.Eng
open Go.RowKit
noncomputable section

end
end Go.Eng

/-! Known calls with plain arguments, for one reading of the symbols. No condition. -/
namespace Go.Eng
open Go.RowKit
noncomputable section

/-- In every world that holds the variables a call with these arguments hands this back, and all that was there stays. -/
def PRow (P : Program) (gl : List Gv) (σ : Nat → Value) (f : FuncId) (args : List AV) (v : AV) (V : World → Prop := fun _ => True) : Prop :=
  ∀ (w : World) (va : Array Value), Hold V (fun k => k < w.heap.size) w → (∃ ρ, R (.at w.heap.size) ρ σ (stOf gl) w) → VRs (fun _ => none) σ args va.toList →
    Calls P f va w (fun e w' => ∃ u, e = .returned u ∧ VR (fun _ => none) σ v u ∧ Below w.heap.size w w')

structure PRw where
  f : FuncId
  args : List AV
  v : AV

/-- Rows whose arguments and results are plain. -/
def plainR (r : PRw) : Bool := r.args.all plainA && (plainA r.v || (match r.v with | .tuple l => l.all plainA | .agg l => l.all plainA | _ => false))

theorem plains_all {l : List AV} (h : l.all plainA = true) : ∀ a ∈ l, plainA a = true := by simpa using h

theorem plainV_any {ρ ρ' : Rho} {σ : Nat → Value} {a : AV} (h : (plainA a || (match a with | .tuple l => l.all plainA | .agg l => l.all plainA | _ => false)) = true) {v : Value} (hv : VR ρ σ a v) : VR ρ' σ a v := by
  rcases Bool.or_eq_true _ _ ▸ h with h | h
  · exact plainA_any h hv
  · split at h
    · obtain ⟨vs, e, hl⟩ := hv; exact ⟨vs, e, plains_any (plains_all h) hl⟩
    · obtain ⟨vs, e, hl⟩ := hv; exact ⟨vs, e, plains_any (plains_all h) hl⟩
    · cases h

def memoOr (m1 m2 : FuncId → List AV → St → Option (AV × St)) (f : FuncId) (args : List AV) (s : St) : Option (AV × St) :=
  match m1 f args s with
  | some r => some r
  | none => m2 f args s
theorem MemoOK.or {E : Env} {σ : Nat → Value} {m1 m2 : FuncId → List AV → St → Option (AV × St)} (h1 : MemoOK { E with memo := m1 } σ) (h2 : MemoOK { E with memo := m2 } σ) : MemoOK { E with memo := memoOr m1 m2 } σ := by
  intro f args s v s' hm
  replace hm : memoOr m1 m2 f args s = some (v, s') := hm
  unfold memoOr at hm
  split at hm
  · rename_i r hr
    cases hm
    exact h1 f args s v s' hr
  · exact h2 f args s v s' hm

/-- The engine's run of a call with plain arguments is a row. -/
def rowRun (E : Env) (gl : List Gv) (f : FuncId) (args : List AV) (n : Nat) (v : AV) : Bool :=
  match callN E (stOf gl) f args n with
  | some (x, _) => plainR ⟨f, args, v⟩ && avEq x v
  | none => false
theorem PRow.of {E : Env} {σ : Nat → Value} (ok : EnvS E σ) (mo : MemoOK E σ) {gl : List Gv} {f : FuncId} {args : List AV} {n : Nat} {v : AV} (h : rowRun E gl f args n v = true) : PRow E.P gl σ f args v E.V := by
  intro w va hv0 ⟨ρ, hR⟩ ha
  unfold rowRun at h
  split at h
  case h_2 => cases h
  rename_i x s' hx
  simp only [Bool.and_eq_true] at h
  obtain ⟨hv, he⟩ := h
  have := avEq_eq _ _ he
  subst this
  unfold plainR at hv
  rw [Bool.and_eq_true] at hv
  intro cs
  obtain ⟨e, w', fr, ⟨u, ρ', rfl, _, hu, _, hB⟩, h2⟩ := callN_ok ok mo hv0 hR (plains_any (plains_all hv.1) ha) hx cs
  exact ⟨_, w', fr, ⟨u, rfl, plainV_any hv.2 hu, hB.at⟩, h2⟩
end
end Go.Eng

/-! Known calls with plain arguments that hand back memory, for one reading of the symbols. No condition. -/
namespace Go.Eng
open Go.RowKit
noncomputable section

/-- In every state that has the variables a call with these arguments comes to this image. -/
def KRow (P : Program) (gl : List Gv) (σ : Nat → Value) (f : FuncId) (args : List AV) (i : Img) (V : World → Prop := fun _ => True) : Prop :=
  ∀ (B : Base) (ρ : Rho) (s : St) (w : World) (va : Array Value), Hold V B.b w → R B ρ σ s w → hasG gl s = true → VRs ρ σ args va.toList → ∀ v s', place i s = some (v, s') → Calls P f va w (CallPost B ρ σ v s' w)

structure KR where
  f : FuncId
  args : List AV
  img : Img

def findK (f : FuncId) (args : List AV) : List KR → Option Img
  | [] => none
  | r :: l => match Nat.beq f r.f && avEqs args r.args with | true => some r.img | false => findK f args l
def memoK (gl : List Gv) (rows : List KR) (f : FuncId) (args : List AV) (s : St) : Option (AV × St) :=
  match findK f args rows with
  | some i => match hasG gl s with
    | true => place i s
    | false => none
  | none => none

theorem findK_mem {f : FuncId} {args : List AV} {i : Img} : ∀ {l : List KR}, findK f args l = some i → ∃ r ∈ l, r.f = f ∧ r.args = args ∧ r.img = i
  | [], h => by cases h
  | r :: l, h => by
    unfold findK at h
    split at h
    · rename_i hb
      cases h
      simp only [Bool.and_eq_true] at hb
      exact ⟨r, by simp, (Nat.eq_of_beq_eq_true hb.1).symm, (avEqs_eq _ _ hb.2).symm, rfl⟩
    · obtain ⟨r', h1, h2⟩ := findK_mem h
      exact ⟨r', by simp [h1], h2⟩

theorem MemoOK.ofK {E : Env} {gl : List Gv} {σ : Nat → Value} {rows : List KR} (h : ∀ r ∈ rows, KRow E.P gl σ r.f r.args r.img E.V) : MemoOK { E with memo := memoK gl rows } σ := by
  intro f args s v s' hm B ρ w va hv0 hR hva
  replace hm : memoK gl rows f args s = some (v, s') := hm
  unfold memoK at hm
  split at hm
  case h_2 => cases hm
  rename_i i hf
  split at hm
  case h_2 => cases hm
  rename_i hs
  obtain ⟨r, hr, rfl, rfl, rfl⟩ := findK_mem hf
  exact h r hr B ρ s w va hv0 hR hs hva v s' hm

/-- The engine's run of a call with plain arguments comes to an image, its blocks by these names. -/
def imgRunA (E : Env) (gl : List Gv) (f : FuncId) (args : List AV) (n : Nat) (m : List Nat) (i : Img) : Bool :=
  match callN E (stOf gl) f args n with
  | some (x, s) => args.all plainA && avEq (ren (nameOf m) i.v) x && chkL (nameOf m) s m i.bs
  | none => false

theorem KRow.of {E : Env} {σ : Nat → Value} (ok : EnvS E σ) (mo : MemoOK E σ) {gl : List Gv} (hl : GlOK gl) {f : FuncId} {args : List AV} {n : Nat} {m : List Nat} {i : Img} (h : imgRunA E gl f args n m i = true) : KRow E.P gl σ f args i E.V := by
  intro B ρ s w va hv0 hR hs ha v s2 hp cs
  unfold imgRunA at h
  split at h
  case h_2 => cases h
  rename_i x s1 hx
  simp only [Bool.and_eq_true] at h
  obtain ⟨⟨hpl, he⟩, hc⟩ := h
  have := avEq_eq _ _ he
  subst this
  obtain ⟨e, w', fr, ⟨u, ρ1, rfl, hρ1, hu, hR1, hB⟩, h2⟩ := callN_ok ok mo (hv0.wide hR.size) (hR.start hl hs) (plains_any (plains_all hpl) ha) hx cs
  have hB := hB.at
  obtain ⟨ρ', hx', hv, hR'⟩ := hR.image hB hR1 (fun g hg => by
    obtain ⟨e0, hg0, _⟩ := hR.vars g hg
    rw [hg0]
    exact hρ1 g _ (by simp only [if_pos hg]; exact hg0)) hu hc hp
  exact ⟨_, w', fr, ⟨u, ρ', rfl, hx', hv, hR', ⟨hB.os, hB.tape, hB.output, hB.size, fun k hk => hB.block k (hR.size k hk)⟩⟩, h2⟩

theorem place_nil {a v : AV} {s s' : St} (hp : plainA a = true ∨ (∃ l, a = .tuple l ∧ l.all plainA = true)) (h : place ⟨a, []⟩ s = some (v, s')) : v = a ∧ s' = s := by
  have pl : ∀ (f : Nat → Nat) (b : AV), plainA b = true → ren f b = b := fun f b hb => by cases b <;> first | rfl | cases hb
  have pls : ∀ (f : Nat → Nat) (l : List AV), l.all plainA = true → rens f l = l := fun f l => by
    induction l with
    | nil => intro _; rfl
    | cons b l ih =>
      intro hb
      simp only [List.all_cons, Bool.and_eq_true] at hb
      unfold rens
      rw [pl f b hb.1, ih hb.2]
  obtain ⟨N, t⟩ := s
  unfold place at h
  simp only [putB] at h
  cases h
  refine ⟨?_, rfl⟩
  rcases hp with hp | ⟨l, rfl, hl⟩
  · exact pl _ _ hp
  · unfold ren; rw [pls _ l hl]

/-- What hands back a fresh row of cells. -/
theorem KRow.alloc {V : World → Prop} {P : Program} {gl : List Gv} {σ : Nat → Value} {f : FuncId} {args : List AV} {cs : List AV} {el n : Nat} (hel : el < tailN) (hcs : cs.all plainA = true) (hn : cs.length = n)
    (h : ∀ (w : World) (va : Array Value), (∃ B ρ s, R B ρ σ s w ∧ hasG gl s = true ∧ VRs ρ σ args va.toList) → ∃ c : Array Value, VRs (fun _ => none) σ cs c.toList ∧
      Calls P f va w (fun e w' => e = .returned (.slice (some ⟨w.heap.size, 0, none⟩) n n) ∧ w' = w.alloc (.cells c el))) : KRow P gl σ f args ⟨.slice gN 0 n n 1, [.cells cs el true]⟩ V := by
  intro B ρ s w va _ hR hs hva v s' hpl cs0
  obtain ⟨c, hc, hcall⟩ := h w va ⟨B, ρ, s, hR, hs, hva⟩
  obtain ⟨e, w', fr, ⟨rfl, rfl⟩, h2⟩ := hcall cs0
  obtain ⟨N, t⟩ := s
  unfold place at hpl
  simp only [putB, renB] at hpl
  split at hpl
  case h_2 => cases hpl
  rename_i s1 hx
  cases hpl
  split at hx
  case h_2 => cases hx
  rename_i i s2 hnew
  cases hx
  have hrs : rens (fun j => Nat.add N j) cs = cs := by
    have pl : ∀ (f : Nat → Nat) (b : AV), plainA b = true → ren f b = b := fun f b hb => by cases b <;> first | rfl | cases hb
    clear hnew hc hn h hva
    induction cs with
    | nil => rfl
    | cons b l ih =>
      simp only [List.all_cons, Bool.and_eq_true] at hcs
      unfold rens
      rw [pl _ b hcs.1, ih hcs.2]
  rw [hrs] at hnew
  have hlen := hc.length
  have hsz : c.size = n := by rw [← hn, ← hlen]; simp
  obtain ⟨ρ', hρ, hR', hi⟩ := hR.new (e := c.size) hnew (New.alloc w (.cells c el)) ⟨c, el, (0, 0), rfl, fun _ => by unfold elOf; rw [if_pos hel], fun _ => rfl, by
    rw [List.drop_zero, ← hlen, List.take_length]; exact plains_any (plains_all hcs) hc, by show cs.length ≤ c.size; omega, by simp, fun _ o _ => by simp⟩
  obtain ⟨hi0, _⟩ := St.new_eq hnew
  have hname : renN (fun j => Nat.add N j) gN = i := by
    rw [hi0]; unfold renN gN; rfl
  refine ⟨_, _, fr, ⟨_, ρ', rfl, hρ, ?_, hR', (New.alloc w _).below hR.size⟩, h2⟩
  unfold ren
  rw [hname]
  exact ⟨_, _, n, hi, rfl, Nat.le_refl _, Nat.le_refl _, .inr ⟨by simp, by show 0 + n * 1 ≤ c.size; omega⟩⟩
end
end Go.Eng

/-! Oracles: what an operation comes to on symbols, by the engine's own operation on what the symbols stand for. No condition. -/
namespace Go.Eng
open Go.RowKit
noncomputable section

/-- A symbol's value in its place. -/
def concS (i : Nat) : Value → AV
  | .int k n => .int k n
  | .string s => .str (bytesNat s)
  | .bool b => .bool b
  | _ => .sym i
def conc (σ : Nat → Value) : AV → AV
  | .sym i => concS i (σ i)
  | a => a

theorem concS_ok {ρ : Rho} {σ : Nat → Value} {i : Nat} {v : Value} (h : v.oneCell' = true) (e : v = σ i) : VR ρ σ (concS i v) v := by
  unfold concS
  split
  · rfl
  · exact ⟨_, rfl, rfl⟩
  · rfl
  · exact ⟨e, h⟩
theorem concS_back {ρ : Rho} {σ : Nat → Value} {i : Nat} {v u : Value} (hu : u = σ i) (h : VR ρ σ (concS i u) v) : VR ρ σ (.sym i) v := by
  unfold concS at h
  split at h
  · replace h : v = _ := h; exact ⟨h.trans hu, by rw [h]; rfl⟩
  · rename_i s
    obtain ⟨t, hv, ht⟩ := h
    have : t = s := bytesNat_inj ht
    rw [this] at hv
    exact ⟨hv.trans hu, by rw [hv]; rfl⟩
  · replace h : v = _ := h; exact ⟨h.trans hu, by rw [h]; rfl⟩
  · exact h
theorem concS_undef {i : Nat} {v : Value} : concS i v ≠ undefA := by
  unfold concS
  split <;> (intro h; cases h)

theorem conc_ok {ρ : Rho} {σ : Nat → Value} {a : AV} {v : Value} (h : VR ρ σ a v) : VR ρ σ (conc σ a) v := by
  cases a
  case sym i =>
    obtain ⟨hv, h2⟩ := h
    show VR ρ σ (concS i (σ i)) v
    rw [← hv]
    exact concS_ok h2 hv
  all_goals exact h

theorem conc_back {ρ : Rho} {σ : Nat → Value} {a : AV} {v : Value} (h : VR ρ σ (conc σ a) v) : VR ρ σ a v := by
  cases a
  case sym i => exact concS_back rfl h
  all_goals exact h

theorem conc_undef {σ : Nat → Value} {a : AV} (h : conc σ a = undefA) : a = undefA := by
  cases a
  case sym i => exact absurd h concS_undef
  all_goals exact h

def T.mapV (f : AV → AV) : T AV → T AV
  | .leaf => .leaf
  | .node v a b c d => .node (v.map f) (a.mapV f) (b.mapV f) (c.mapV f) (d.mapV f)
theorem T.get_mapV (f : AV → AV) : ∀ (i : Nat) (t : T AV), (t.mapV f).get i = (t.get i).map f := by
  intro i
  induction i using Nat.strongRecOn with
  | ind i ih =>
    intro t
    cases t with
    | leaf => unfold T.mapV; rw [T.get_leaf]; rfl
    | node v a b c d =>
      unfold T.mapV
      rcases nat_split i with rfl | ⟨j, rfl⟩ | ⟨j, rfl⟩ | ⟨j, rfl⟩ | ⟨j, rfl⟩
      · rfl
      · rw [T.get_a, T.get_a]; exact ih j (by omega) a
      · rw [T.get_b, T.get_b]; exact ih j (by omega) b
      · rw [T.get_c, T.get_c]; exact ih j (by omega) c
      · rw [T.get_d, T.get_d]; exact ih j (by omega) d

theorem tget_mapV {f : AV → AV} (hf : f undefA = undefA) (tm : T AV) (t : Nat) : tget (tm.mapV f) t = f (tget tm t) := by
  rw [tget_def, tget_def, T.get_mapV]
  cases tm.get t with
  | none => exact hf.symm
  | some a => rfl

theorem absC_conc {σ : Nat → Value} : ∀ {v : Value} {a : AV}, absC v = some a → conc σ a = a := by
  intro v a h
  unfold absC at h
  split at h <;> first | (cases h; rfl) | cases h
theorem absV_conc {σ : Nat → Value} {v : Value} {a : AV} (h : absV v = some a) : conc σ a = a := by
  unfold absV at h
  split at h
  · split at h <;> first | (cases h; rfl) | cases h
  · split at h <;> first | (cases h; rfl) | cases h
  · exact absC_conc h

theorem aeval_mapV {σ : Nat → Value} {tm : T AV} {x : Operand} : aeval (tm.mapV (conc σ)) x = (aeval tm x).map (conc σ) := by
  cases x with
  | tmp t => show some (tget (tm.mapV (conc σ)) t) = _; rw [tget_mapV rfl]; rfl
  | const v =>
    show absV v = (absV v).map (conc σ)
    cases h : absV v with
    | none => rfl
    | some a => rw [Option.map_some, absV_conc h]
  | global g =>
    show Bool.rec (motive := fun _ => Option AV) none (some (.ptr g 0)) (Nat.blt g 500) = Option.map (conc σ) (Bool.rec (motive := fun _ => Option AV) none (some (.ptr g 0)) (Nat.blt g 500))
    cases Nat.blt g 500 <;> rfl
  | func f => rfl

theorem EvOK.mapV {ρ : Rho} {σ : Nat → Value} {tm : T AV} {ev : Operand → Value} (h : EvOK ρ σ tm ev) : EvOK ρ σ (tm.mapV (conc σ)) ev := by
  intro x a hx
  rw [aeval_mapV] at hx
  cases hy : aeval tm x with
  | none => rw [hy] at hx; cases hx
  | some b => rw [hy] at hx; cases hx; exact conc_ok (h x b hy)

theorem ResOK.back {B : Base} {ρ : Rho} {σ : Nat → Value} {a : AV} {s : St} {w : World} : ∀ {r : Result Next}, ResOK B ρ σ (.val (conc σ a) s) w r → ResOK B ρ σ (.val a s) w r
  | .ok nx w', ⟨hB, ρ', hρ, hR, hv⟩ => ⟨hB, ρ', hρ, hR, by
      rcases hv with ⟨u, e, hu⟩ | ⟨e, hu⟩
      · exact .inl ⟨u, e, conc_back hu⟩
      · exact .inr ⟨e, conc_undef hu⟩⟩
  | .halt e w', h => by
      cases e <;> first | exact h.elim | (obtain ⟨_, _, e, _⟩ := h; cases e)

/-- A row of an oracle: the engine's own operation says so of what the symbols stand for. -/
def ORow (E : Env) (σ : Nat → Value) (o : Op) (as : List AV) (a : AV) : Prop :=
  ∀ (tm : T AV) (s : St), aevals tm o.operands.toList = some (as.map (conc σ)) → aop0 E tm s o = some (.val (conc σ a) s)

theorem aevals_mapV {σ : Nat → Value} {tm : T AV} : ∀ {xs : List Operand} {as : List AV}, aevals tm xs = some as → aevals (tm.mapV (conc σ)) xs = some (as.map (conc σ))
  | [], as, h => by cases h; rfl
  | x :: xs, as, h => by
    unfold aevals at h ⊢
    split at h
    case h_2 => cases h
    rename_i v hv
    split at h
    case h_2 => cases h
    rename_i vs hvs
    cases h
    rw [aeval_mapV, hv, aevals_mapV hvs]
    rfl

theorem OraOK.of {E : Env} {σ : Nat → Value} (ok : EnvOK E) (h : ∀ o as a, oraO o = true → E.ora o as = some a → ORow E σ o as a) : OraOK E σ := by
  intro _ o as a ho ha B ρ tm ev s w _ hR he hop oper e
  subst e
  exact (aop0_ok ok hR he.mapV (h _ as a ho ha (tm.mapV (conc σ)) s (aevals_mapV hop))).back

/-! ### Rows -/
def codeB : BinOp → Nat
  | .add => 0 | .sub => 1 | .mul => 2 | .quo => 3 | .rem => 4 | .and => 5 | .or => 6 | .xor => 7 | .andNot => 8 | .shl => 9 | .shr => 10
  | .eql => 11 | .neq => 12 | .lss => 13 | .leq => 14 | .gtr => 15 | .geq => 16

def codeL (t : TypeId) : List TypeId → Nat
  | [u] => bif_ (Nat.beq u t) 20 99
  | _ => 99
def codeC (t : TypeId) (c : Call) : Nat := match c.callee with
  | .builtin .len => codeL t c.argTypes.toList
  | .builtin .min => 25
  | _ => 99
def codeS : Option Operand → Option Operand → Option Operand → Nat
  | some _, some _, none => 22
  | some _, none, none => 23
  | none, some _, none => 24
  | _, _, _ => 99

/-- What an operation is, by a number; 't' is the type of strings. -/
def codeO (t : TypeId) : Op → Nat
  | .binOp op _ _ _ _ => codeB op
  | .call c => codeC t c
  | .index u _ _ => bif_ (Nat.beq u t) 21 99
  | .slice u _ lo hi mx => bif_ (Nat.beq u t) (codeS lo hi mx) 99
  | .convert a b _ => bif_ (Nat.blt a 1000 && Nat.blt b 1000) (Nat.add 1000 (Nat.add (Nat.mul 1000 a) b)) 99
  | _ => 99

structure OR where
  k : Nat
  as : List AV
  v : AV

def findO (k : Nat) (as : List AV) : List OR → Option AV
  | [] => none
  | r :: l => match Nat.beq k r.k && avEqs as r.as with | true => some r.v | false => findO k as l
def oraL (t : TypeId) (rows : List OR) (o : Op) (as : List AV) : Option AV := findO (codeO t o) as rows

theorem findO_mem {k : Nat} {as : List AV} {v : AV} : ∀ {l : List OR}, findO k as l = some v → ∃ r ∈ l, r.k = k ∧ r.as = as ∧ r.v = v
  | [], h => by cases h
  | r :: l, h => by
    unfold findO at h
    split at h
    · rename_i hb
      cases h
      simp only [Bool.and_eq_true] at hb
      exact ⟨r, by simp, (Nat.eq_of_beq_eq_true hb.1).symm, (avEqs_eq _ _ hb.2).symm, rfl⟩
    · obtain ⟨r', h1, h2⟩ := findO_mem h
      exact ⟨r', by simp [h1], h2⟩

/-- The environment with an oracle and known calls. -/
def Env.ask (E : Env) (t : TypeId) (rows : List OR) (m : FuncId → List AV → St → Option (AV × St)) : Env := { E with memo := m, on := true, ora := oraL t rows }

theorem EnvS.ask {E : Env} {σ : Nat → Value} {t : TypeId} {rows : List OR} {m : FuncId → List AV → St → Option (AV × St)} (ok : EnvOK E) (h : ∀ r ∈ rows, ∀ o, oraO o = true → codeO t o = r.k → ORow (E.ask t rows m) σ o r.as r.v) : EnvS (E.ask t rows m) σ := by
  have ok' : EnvOK (E.ask t rows m) := ⟨ok.ty, ok.fns, ok.mixed⟩
  refine ⟨ok', OraOK.of ok' fun o as a ho ha => ?_⟩
  obtain ⟨r, hr, h1, rfl, rfl⟩ := findO_mem ha
  exact h r hr o ho h1.symm

/-! What makes a row. -/
theorem bothNil_conc {E : Env} {op : BinOp} {t : TypeId} {a b v : AV} (h : binA E op t a b = some v) : bothNil a b = false := by
  cases hb : bothNil a b with
  | false => rfl
  | true =>
    obtain ⟨rfl, rfl⟩ := bothNil_spec hb
    unfold binA at h
    split at h
    · rename_i h1 _; cases h1
    · rename_i h1 _; cases h1
    · split at h
      · simp [eqA] at h
      · simp [eqA] at h
      · cases h

theorem ORow.bin {E : Env} {σ : Nat → Value} {op : BinOp} {a b v : AV} (h : ∀ t, binA E op t (conc σ a) (conc σ b) = some (conc σ v)) (t : TypeId) (x y : Operand) (z) : ORow E σ (.binOp op t x y z) [a, b] v := by
  intro tm s hop
  show oBin E tm s op t x y = some (.val (conc σ v) s)
  have hop : aevals tm [x, y] = some [conc σ a, conc σ b] := hop
  unfold aevals at hop
  split at hop
  case h_2 => cases hop
  rename_i ax hx
  split at hop
  case h_2 => cases hop
  rename_i l hl
  cases hop
  unfold aevals at hl
  split at hl
  case h_2 => cases hl
  rename_i ay hy
  split at hl
  case h_2 => cases hl
  cases hl
  unfold oBin
  rw [hx, hy]
  show bif_ (bothNil (conc σ a) (conc σ b)) (nilEq E s op t x y) (val1 s (binA E op t (conc σ a) (conc σ b))) = some (.val (conc σ v) s)
  rw [bothNil_conc (h t), h t]
  rfl
end
end Go.Eng

/-! Contracts by values: what a call with these values comes to in every world that holds the variables. No condition. -/
namespace Go.Eng
open Go.RowKit
noncomputable section

/-- Cells that bear no symbol. -/
def bare : AV → Bool
  | .sym _ => false
  | a => lowA a
def bareG (gl : List Gv) : Bool := gl.all fun x => x.cs.all bare

theorem bare_any {ρ : Rho} {σ σ' : Nat → Value} : ∀ {a : AV}, bare a = true → ∀ {v : Value}, VR ρ σ a v → VR ρ σ' a v
  | .ptr _ _, _, _, h => h
  | .slice _ _ _ _ _, _, _, h => h
  | .bool _, _, _, e => e
  | .int _ _, _, _, e => e
  | .str _, _, _, e => e
  | .nilptr, _, _, e => e
  | .nilslice, _, _, e => e
  | .nilmap, _, _, e => e
  | .nilFunc, _, _, e => e
  | .nilIface, _, _, e => e
  | .unk, _, _, e => e
  | .sym _, h, _, _ => Bool.noConfusion h
  | .map _, h, _, _ => Bool.noConfusion h
  | .func _ _ _, h, _, _ => Bool.noConfusion h
  | .yield _, h, _, _ => Bool.noConfusion h
  | .iface _ _, h, _, _ => Bool.noConfusion h
  | .agg _, h, _, _ => Bool.noConfusion h
  | .tuple _, h, _, _ => Bool.noConfusion h
  | .any, h, _, _ => Bool.noConfusion h
theorem bares_any {ρ : Rho} {σ σ' : Nat → Value} : ∀ {l : List AV} {vs : List Value}, l.all bare = true → VRs ρ σ l vs → VRs ρ σ' l vs
  | [], _, _, h => h
  | a :: l, _, hp, ⟨v, r, e, h, hl⟩ => by
    simp only [List.all_cons, Bool.and_eq_true] at hp
    exact ⟨v, r, e, bare_any hp.1 h, bares_any hp.2 hl⟩

/-- The variables' state speaks of no symbol. -/
theorem R.resig {B : Base} {ρ : Rho} {σ σ' : Nat → Value} {w : World} {gl : List Gv} (hl : GlOK gl) (hb : bareG gl = true) (h : R B ρ σ (stOf gl) w) : R B ρ σ' (stOf gl) w := by
  refine ⟨h.fresh, h.base, h.most, fun i b hi => ?_, h.virt, h.inj, h.own, h.glob, h.vars, h.size, h.nd⟩
  obtain ⟨x, hx, rfl, rfl⟩ := stOf_get gl hl.small i b hi
  rcases h.live _ _ hi with hv | ⟨L, ob, hL, hob, c, t, fr, e, ht, z, hv, r⟩
  · exact .inl hv
  · exact .inr ⟨L, ob, hL, hob, c, t, fr, e, ht, z, bares_any (List.all_eq_true.1 hb x hx) hv, r⟩

/-- In every world that holds the variables this call hands this value back, and all that was there stays. -/
def CallsG (P : Program) (gl : List Gv) (f : FuncId) (va : Array Value) (u : Value) : Prop :=
  ∀ (w : World), (∃ ρ σ, R (.at w.heap.size) ρ σ (stOf gl) w) → Calls P f va w (fun e w' => e = .returned u ∧ Below w.heap.size w w')

/-- Values that tell all. -/
def tells : AV → Bool
  | .bool _ | .int _ _ | .str _ | .nilptr | .nilslice | .nilmap | .nilFunc | .nilIface | .sym _ => true
  | _ => false
def tellsV : AV → Bool
  | .tuple l => l.all tells
  | .agg l => l.all tells
  | a => tells a
theorem tells_fun {ρ ρ' : Rho} {σ : Nat → Value} : ∀ {a : AV}, tells a = true → ∀ {u v : Value}, VR ρ σ a u → VR ρ' σ a v → u = v := by
  intro a ha u v hu hv
  cases a <;> first
    | (cases ha; done)
    | exact hu.trans hv.symm
    | (obtain ⟨s, rfl, h1⟩ := hu; obtain ⟨t, rfl, h2⟩ := hv; rw [bytesNat_inj (h1.trans h2.symm)])
    | exact hu.1.trans hv.1.symm
theorem tells_funs {ρ ρ' : Rho} {σ : Nat → Value} : ∀ {l : List AV}, l.all tells = true → ∀ {u v : List Value}, VRs ρ σ l u → VRs ρ' σ l v → u = v
  | [], _, _, _, h1, h2 => h1.trans h2.symm
  | a :: l, ha, _, _, ⟨x, r, e, h1, hl⟩, ⟨y, q, e', h2, hq⟩ => by
    simp only [List.all_cons, Bool.and_eq_true] at ha
    rw [e, e', tells_fun ha.1 h1 h2, tells_funs ha.2 hl hq]
theorem tellsV_fun {ρ ρ' : Rho} {σ : Nat → Value} {a : AV} (ha : tellsV a = true) {u v : Value} (hu : VR ρ σ a u) (hv : VR ρ' σ a v) : u = v := by
  unfold tellsV at ha
  split at ha
  · obtain ⟨x, rfl, h1⟩ := hu; obtain ⟨y, rfl, h2⟩ := hv; rw [Array.ext' (tells_funs ha h1 h2)]
  · obtain ⟨x, rfl, h1⟩ := hu; obtain ⟨y, rfl, h2⟩ := hv; rw [Array.ext' (tells_funs ha h1 h2)]
  · exact tells_fun ha hu hv

theorem CallsG.of {P : Program} {gl : List Gv} {σ : Nat → Value} {f : FuncId} {args : List AV} {v : AV} {va : Array Value} {u : Value} (hl : GlOK gl) (hb : bareG gl = true) (h : PRow P gl σ f args v) (ha : VRs (fun _ => none) σ args va.toList) (hu : VR (fun _ => none) σ v u) (ht : tellsV v = true) : CallsG P gl f va u := by
  intro w ⟨ρ, σ', hR⟩
  exact (h w va (Hold.all (fun _ => True.intro) _ _) ⟨ρ, hR.resig hl hb⟩ ha).mono fun e w' ⟨u', h1, h2, h3⟩ => ⟨by rw [h1, tellsV_fun ht h2 hu], h3⟩
end
end Go.Eng
