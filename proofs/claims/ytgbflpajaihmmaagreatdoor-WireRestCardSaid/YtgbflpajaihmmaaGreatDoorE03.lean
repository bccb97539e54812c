/- The engine: an abstract machine that runs closed code of any program, and its proof: part 3 of 12. No condition. -/
import Derived.Test.YtgbflpajaihmmaaGreatDoorE02
import Derived.Laws.Cells
import Derived.Laws.Rows
import Derived.Laws.Append
import Derived.Calls
import Derived.IntWalk
import Derived.Laws.StructEq
/-! The engine's relation: blocks, the state, the environment. No condition. -/
namespace Go.Eng
open Go.RowKit

/-! ### The environment -/
structure EnvOK (E : Env) : Prop where
  ty : ∀ t ti, E.ty.get t = some ti → ∃ i, E.P.info? t = some i ∧ i.size = ti.size ∧ i.bytes = ti.bytes ∧ i.zero = ti.zero ∧ i.comparable = ti.cmp ∧
    E.P.underlying t = some ti.und ∧ ti.isAgg = aggD ti.und
  fns : ∀ f i, E.fns.get f = some i → E.P.funcs[f]? = some i.fn ∧ i = mkFn i.fn
  mixed : E.P.follows .mixedOrders = true

section
variable {E : Env} (ok : EnvOK E)
include ok
theorem EnvOK.und {t : TypeId} {d : TypeDesc} (h : und E t = some d) : E.P.underlying t = some d := by
  unfold Eng.und at h
  cases ht : E.ty.get t with
  | none => simp [ht] at h
  | some ti =>
    simp [ht] at h
    subst h
    obtain ⟨_, _, _, _, _, _, h, _⟩ := ok.ty t ti ht
    exact h
theorem EnvOK.sz {t : TypeId} {n : Nat} (h : szOf E t = some n) : ∃ i, E.P.info? t = some i ∧ i.size = n := by
  unfold szOf at h
  cases ht : E.ty.get t with
  | none => simp [ht] at h
  | some ti =>
    simp [ht] at h
    obtain ⟨i, hi, hs, _⟩ := ok.ty t ti ht
    exact ⟨i, hi, hs.trans h⟩
theorem EnvOK.run_sz {t : TypeId} {n : Nat} (h : szOf E t = some n) (w : World) : (sizeOf t).run E.P w = .ok n w := by
  obtain ⟨i, hi, hs⟩ := ok.sz h
  simp [sizeOf, typeInfo, hi, hs]
theorem EnvOK.run_und {t : TypeId} {d : TypeDesc} (h : Eng.und E t = some d) (w : World) : (underlying t).run E.P w = .ok d w := by
  simp [underlying, ok.und h]
theorem EnvOK.run_zero {t : TypeId} {z : AV} (h : zeroOf E t = some z) (w : World) : ∃ v, (zeroValue t).run E.P w = .ok v w ∧ ∀ ρ σ, VR ρ σ z v := by
  unfold zeroOf at h
  cases ht : E.ty.get t with
  | none => simp [ht] at h
  | some ti =>
    simp [ht] at h
    obtain ⟨i, hi, _, _, hz, _⟩ := ok.ty t ti ht
    cases hzz : ti.zero with
    | none => simp [hzz] at h
    | some v =>
      simp [hzz] at h
      exact ⟨v, by simp [zeroValue, typeInfo, hi, hz, hzz], fun ρ σ => absV_rel h⟩
theorem EnvOK.run_isAgg {t : TypeId} {ti : TyI} (h : E.ty.get t = some ti) (w : World) : (isAgg t).run E.P w = .ok ti.isAgg w := by
  obtain ⟨i, hi, _, _, _, _, hu, ha⟩ := ok.ty t ti h
  simp only [isAgg, underlying, Sem.run_bind, run_program, Result.andThen_ok, hu, Sem.run_pure, ha]
  cases ti.und <;> rfl
end

/-! ### Worlds -/
/-- The same memory; the draws may have gone on. -/
structure Same (w w' : World) : Prop where
  os : w'.os = w.os
  tape : w'.tape = w.tape
  output : w'.output = w.output
  heap : w'.heap = w.heap
/-- One block holds something else. -/
structure Upd (w : World) (g : Nat) (ob : Obj) (w' : World) : Prop where
  os : w'.os = w.os
  tape : w'.tape = w.tape
  output : w'.output = w.output
  size : w'.heap.size = w.heap.size
  here : w'.heap[g]? = some ob
  other : ∀ k, k ≠ g → w'.heap[k]? = w.heap[k]?
/-- One block more. -/
structure New (w : World) (ob : Obj) (w' : World) : Prop where
  os : w'.os = w.os
  tape : w'.tape = w.tape
  output : w'.output = w.output
  size : w'.heap.size = w.heap.size + 1
  here : w'.heap[w.heap.size]? = some ob
  other : ∀ k, k < w.heap.size → w'.heap[k]? = w.heap[k]?

theorem Same.refl (w : World) : Same w w := ⟨rfl, rfl, rfl, rfl⟩
theorem Same.drew (w : World) : Same w { w with drawn := w.drawn + 1 } := ⟨rfl, rfl, rfl, rfl⟩
/-- What holds of these blocks stays as it is. -/
structure Kept (b : Nat → Prop) (w w' : World) : Prop where
  os : w'.os = w.os
  tape : w'.tape = w.tape
  output : w'.output = w.output
  size : w.heap.size ≤ w'.heap.size
  block : ∀ k, b k → w'.heap[k]? = w.heap[k]?
theorem Kept.refl (b : Nat → Prop) (w : World) : Kept b w w := ⟨rfl, rfl, rfl, Nat.le_refl _, fun _ _ => rfl⟩
theorem Kept.trans {b : Nat → Prop} {x y z : World} (h : Kept b x y) (k : Kept b y z) : Kept b x z :=
  ⟨k.os.trans h.os, k.tape.trans h.tape, k.output.trans h.output, Nat.le_trans h.size k.size, fun i hi => (k.block i hi).trans (h.block i hi)⟩
theorem Same.below {w w' : World} (h : Same w w') (b : Nat → Prop) : Kept b w w' := ⟨h.os, h.tape, h.output, by rw [h.heap]; exact Nat.le_refl _, fun k _ => by rw [h.heap]⟩
theorem Upd.below {w w' : World} {g : Nat} {ob : Obj} (h : Upd w g ob w') {b : Nat → Prop} (hB : ¬ b g) : Kept b w w' :=
  ⟨h.os, h.tape, h.output, by rw [h.size]; exact Nat.le_refl _, fun k hk => h.other k (fun e => hB (by rw [← e]; exact hk))⟩
theorem New.below {w w' : World} {ob : Obj} (h : New w ob w') {b : Nat → Prop} (hB : ∀ k, b k → k < w.heap.size) : Kept b w w' :=
  ⟨h.os, h.tape, h.output, by rw [h.size]; omega, fun k hk => h.other k (hB k hk)⟩
theorem New.alloc (w : World) (o : Obj) : New w o (w.alloc o) :=
  ⟨rfl, rfl, rfl, by simp, heap_alloc_new w o, fun k hk => heap_alloc_old w o k hk⟩
theorem New.of_same {w w1 w' : World} {o : Obj} (h : Same w w1) (k : New w1 o w') : New w o w' := by
  have e : w1.heap.size = w.heap.size := by rw [h.heap]
  exact ⟨k.os.trans h.os, k.tape.trans h.tape, k.output.trans h.output, by rw [k.size, e], by rw [← e]; exact k.here, fun i hi => (k.other i (by omega)).trans (by rw [h.heap])⟩
theorem Upd.setObj (w : World) (g : Nat) (o : Obj) (hg : g < w.heap.size) : Upd w g o { w with heap := w.heap.setIfInBounds g o } :=
  ⟨rfl, rfl, rfl, by simp, by simp [hg], fun k hk => by simp [Array.getElem?_setIfInBounds_ne (Ne.symm hk)]⟩
theorem Upd.trans {w w1 w2 : World} {g : Nat} {a b : Obj} (h : Upd w g a w1) (k : Upd w1 g b w2) : Upd w g b w2 :=
  ⟨k.os.trans h.os, k.tape.trans h.tape, k.output.trans h.output, k.size.trans h.size, k.here, fun i hi => (k.other i hi).trans (h.other i hi)⟩

theorem lt_of_get {α : Type} {a : Array α} {i : Nat} {x : α} (h : a[i]? = some x) : i < a.size := (Array.getElem?_eq_some_iff.1 h).1

/-! ### Blocks -/
def MR (ρ : Rho) (σ : Nat → Value) : List (AV × AV × Nat) → List MapEntry → Prop
  | [], es => es = []
  | (k, v, b) :: l, es => ∃ e r, es = e :: r ∧ VR ρ σ k e.key ∧ VR ρ σ v e.val ∧ e.born = b ∧ MR ρ σ l r

theorem MR.ext {ρ ρ' : Rho} {σ : Nat → Value} (h : Ext ρ ρ') : ∀ {l : List (AV × AV × Nat)} {es : List MapEntry}, MR ρ σ l es → MR ρ' σ l es
  | [], _, e => e
  | (_, _, _) :: _, _, ⟨e, r, he, hk, hv, hb, hl⟩ => ⟨e, r, he, hk.ext h _ _, hv.ext h _ _, hb, MR.ext h hl⟩

/-- Temporaries. -/
structure TR (ρ : Rho) (σ : Nat → Value) (tm : T AV) (nt : Nat) (tmps : Array Value) : Prop where
  size : tmps.size = nt
  most : nt ≤ T.most
  vals : ∀ t, VR ρ σ (tget tm t) (tmps.getD t undef)

theorem tget_def (tm : T AV) (t : Nat) : tget tm t = (tm.get t).getD undefA := by
  unfold tget; cases tm.get t <;> rfl

theorem TR.ext {ρ ρ' : Rho} {σ : Nat → Value} (h : Ext ρ ρ') {tm : T AV} {nt : Nat} {tmps : Array Value} (r : TR ρ σ tm nt tmps) : TR ρ' σ tm nt tmps :=
  ⟨r.size, r.most, fun t => (r.vals t).ext h _ _⟩

theorem TR.put {ρ : Rho} {σ : Nat → Value} {tm : T AV} {nt : Nat} {tmps : Array Value} (r : TR ρ σ tm nt tmps) {d : Nat} (hd : d < nt) {a : AV} {v : Value} (h : VR ρ σ a v) :
    TR ρ σ (tm.put d a) nt (tmps.setIfInBounds d v) := by
  refine ⟨by simp [r.size], r.most, fun t => ?_⟩
  rw [tget_def, T.get_put tm d a (by have := r.most; omega)]
  by_cases e : d = t
  · subst e
    have : d < tmps.size := by rw [r.size]; exact hd
    simpa [this] using h
  · have := r.vals t
    rw [tget_def] at this
    rw [if_neg e]
    simpa [Array.getElem?_setIfInBounds_ne e] using this

/-- What a machine's block holds, by an abstract block. -/
def BO (ρ : Rho) (σ : Nat → Value) (L : Loc) : Blk → Obj → Prop
  | .cells cs el wr, ob => ∃ c t fr, ob = .cells c t fr ∧ (el ≠ unkT → t = elOf el) ∧ (el < tailN → L.sh = 0) ∧ VRs ρ σ cs ((c.toList.drop L.sh).take cs.length) ∧ cs.length ≤ L.ext ∧ L.sh + L.ext ≤ c.size ∧
      (wr = true → ∀ o, o < c.size → ¬ (fr.1 ≤ o ∧ o < fr.2))
  | .map es k, ob => L.sh = 0 ∧ ∃ m, ob = .map m k ∧ MR ρ σ es m.toList
  | .siter s pos, ob => L.sh = 0 ∧ ∃ b, ob = .stringIter b pos ∧ bytesNat b = s
  | .miter m since seen last, ob => L.sh = 0 ∧ ∃ mo, ob = .mapIter mo since seen.toArray last ∧ ((m = none ∧ mo = none) ∨ ∃ i D, m = some i ∧ ρ i = some D ∧ mo = some D.blk)
  | .loop st pe fn tm nt ps as bd df, ob => L.sh = 0 ∧ ∃ l : Loop, ob = .loop l ∧ l.state = st ∧ l.pending = pe ∧ l.fn = fn ∧ TR ρ σ tm nt l.tmps ∧ l.params.toList = ps ∧ l.assign = as ∧ l.body = bd ∧
      ∃ D, ρ df = some D ∧ l.defers = D.blk
  | .deferred op, ob => L.sh = 0 ∧ ob = .deferred (match op with | true => some [] | false => none)

theorem BO.ext {ρ ρ' : Rho} {σ : Nat → Value} (h : Ext ρ ρ') {L : Loc} : ∀ {b : Blk} {ob : Obj}, BO ρ σ L b ob → BO ρ' σ L b ob
  | .cells _ _ _, _, ⟨c, t, fr, e, ht, z, hv, r⟩ => ⟨c, t, fr, e, ht, z, VRs.ext h _ _ hv, r⟩
  | .map _ _, _, ⟨z, m, e, hm⟩ => ⟨z, m, e, hm.ext h⟩
  | .siter _ _, _, r => r
  | .miter _ _ _ _, _, ⟨z, mo, e, r⟩ => ⟨z, mo, e, r.imp id fun ⟨i, D, e1, e2, e3⟩ => ⟨i, D, e1, h _ _ e2, e3⟩⟩
  | .loop _ _ _ _ _ _ _ _ _, _, ⟨z, l, a, b, c, d, t, e, f, g, D, hD, k⟩ => ⟨z, l, a, b, c, d, t.ext h, e, f, g, D, h _ _ hD, k⟩
  | .deferred _, _, r => r

/-- How many names are the variables', and those of what lies behind them. -/
def gN : Nat := 1000
/-- How many are the variables' own. -/
def vN : Nat := 500

/-- The blocks of 'b' are not the run's own; 'v': blocks that the engine has laid and the machine has not yet, frame by frame. -/
structure Base where
  b : Nat → Prop
  v : List (List (Nat × Blk))
def Base.at (n : Nat) : Base := ⟨fun k => k < n, [[]]⟩
def look : List (Nat × Blk) → Nat → Option Blk
  | [], _ => none
  | (j, b) :: l, i => if j = i then some b else look l i
def Base.get (B : Base) (i : Nat) : Option Blk := look B.v.flatten i
theorem Base.at_get (n i : Nat) : (Base.at n).get i = none := rfl

/-- The state's relation to a world. -/
structure R (B : Base) (ρ : Rho) (σ : Nat → Value) (s : St) (w : World) : Prop where
  fresh : ∀ i, s.next ≤ i → ρ i = none
  base : gN ≤ s.next
  most : s.next ≤ T.most + 1
  live : ∀ i b, s.get i = some b → (ρ i = none ∧ B.get i = some b) ∨ ∃ L ob, ρ i = some L ∧ w.heap[L.blk]? = some ob ∧ BO ρ σ L b ob
  virt : ∀ i b, B.get i = some b → s.get i = some b ∧ ρ i = none ∧ i < s.next ∧ gN ≤ i
  inj : ∀ i j b b' L L', gN ≤ i → s.get i = some b → s.get j = some b' → i ≠ j → ρ i = some L → ρ j = some L' → L.blk ≠ L'.blk
  own : ∀ i b L, s.get i = some b → ρ i = some L → gN ≤ i → ¬ B.b L.blk
  glob : ∀ i b, s.get i = some b → i < gN → ∃ cs el, b = .cells cs el false
  vars : ∀ g, g < gN → ∃ L, ρ g = some L ∧ (g < vN → L.blk = g ∧ L.sh = 0)
  size : ∀ k, B.b k → k < w.heap.size
  nd : (B.v.flatten.map (·.1)).Nodup

theorem St.get_put (s : St) (i : Nat) (b : Blk) (h : i < T.most + 1) (j : Nat) : (s.put i b).get j = if i = j then some b else s.get j := by
  cases s; exact T.get_put _ _ _ h _
theorem St.get_del (s : St) (i : Nat) (h : i < T.most + 1) (j : Nat) : (s.del i).get j = if i = j then none else s.get j := by
  cases s; exact T.get_del _ _ h _
theorem St.next_put (s : St) (i : Nat) (b : Blk) : (s.put i b).next = s.next := by cases s; rfl
theorem St.next_del (s : St) (i : Nat) : (s.del i).next = s.next := by cases s; rfl

section
variable {B : Base} {ρ : Rho} {σ : Nat → Value} {s : St} {w w' : World}

/-- What a name stands for that the machine has. -/
theorem R.here (h : R B ρ σ s w) {i : Nat} {b : Blk} (hi : s.get i = some b) {L : Loc} (hL : ρ i = some L) : ∃ ob, w.heap[L.blk]? = some ob ∧ BO ρ σ L b ob := by
  rcases h.live i b hi with ⟨hn, _⟩ | ⟨L', ob, hL', hob, hb⟩
  · rw [hL] at hn; cases hn
  · rw [hL] at hL'; cases hL'
    exact ⟨ob, hob, hb⟩
theorem R.noV (h : R B ρ σ s w) {i : Nat} {L : Loc} (hL : ρ i = some L) : B.get i = none := by
  cases hv : B.get i with
  | none => rfl
  | some b => rw [(h.virt i b hv).2.1] at hL; cases hL

theorem R.lt (h : R B ρ σ s w) {i : Nat} {b : Blk} (hi : s.get i = some b) : i < s.next := by
  rcases h.live i b hi with ⟨_, hv⟩ | ⟨L, _, hL, _⟩
  · exact (h.virt i b hv).2.2.1
  rcases Nat.lt_or_ge i s.next with h' | h'
  · exact h'
  · rw [h.fresh i h'] at hL; cases hL
theorem R.lt_most (h : R B ρ σ s w) {i : Nat} {b : Blk} (hi : s.get i = some b) : i < T.most + 1 := Nat.lt_of_lt_of_le (h.lt hi) h.most

theorem R.same (h : R B ρ σ s w) (k : Same w w') : R B ρ σ s w' :=
  ⟨h.fresh, h.base, h.most, fun i b hi => by rw [k.heap]; exact h.live i b hi, h.virt, h.inj, h.own, h.glob, h.vars, by rw [k.heap]; exact h.size, h.nd⟩

/-- A block of the run's own holds something else. -/
theorem R.upd (h : R B ρ σ s w) {i : Nat} {b b' : Blk} {L : Loc} {ob : Obj} (hi : s.get i = some b) (hL : ρ i = some L) (hg : gN ≤ i) (k : Upd w L.blk ob w') (hb : BO ρ σ L b' ob) :
    R B ρ σ (s.put i b') w' := by
  have hm := h.lt_most hi
  refine ⟨by rw [St.next_put]; exact h.fresh, by rw [St.next_put]; exact h.base, by rw [St.next_put]; exact h.most, fun j c hj => ?_, fun j c hv => ?_, fun i' j c c' M M' hgi hi' hj hne hM hM' => ?_,
    fun j c M hj hM hgj => ?_, fun j c hj hlt => ?_, h.vars, by rw [k.size]; exact h.size, h.nd⟩
  · rw [St.get_put _ _ _ hm] at hj
    by_cases e : i = j
    · subst e; simp at hj; subst hj; exact .inr ⟨L, ob, hL, k.here, hb⟩
    · simp [e] at hj
      rcases h.live j c hj with hv | ⟨M, o, hM, ho, hbo⟩
      · exact .inl hv
      · exact .inr ⟨M, o, hM, by rw [k.other M.blk (fun e' => h.inj i j b c L M hg hi hj e hL hM e'.symm)]; exact ho, hbo⟩
  · obtain ⟨h1, h2, h3, h4⟩ := h.virt j c hv
    have e : i ≠ j := fun e => by subst e; rw [hL] at h2; cases h2
    rw [St.get_put _ _ _ hm, if_neg e, St.next_put]
    exact ⟨h1, h2, h3, h4⟩
  · have up : ∀ x y, (s.put i b').get x = some y → ∃ y', s.get x = some y' := fun x y hx => by
      rw [St.get_put _ _ _ hm] at hx
      by_cases e : i = x
      · subst e; exact ⟨b, hi⟩
      · simp [e] at hx; exact ⟨y, hx⟩
    obtain ⟨_, h1⟩ := up _ _ hi'
    obtain ⟨_, h2⟩ := up _ _ hj
    exact h.inj _ _ _ _ _ _ hgi h1 h2 hne hM hM'
  · rw [St.get_put _ _ _ hm] at hj
    by_cases e : i = j
    · subst e; exact h.own i b M hi hM hgj
    · simp [e] at hj; exact h.own j c M hj hM hgj
  · rw [St.get_put _ _ _ hm] at hj
    by_cases e : i = j
    · subst e; omega
    · simp [e] at hj; exact h.glob j c hj hlt

/-- A block is forgotten. -/
theorem R.del (h : R B ρ σ s w) {i : Nat} (hm : i < T.most + 1) (hnv : B.get i = none) : R B ρ σ (s.del i) w := by
  have old : ∀ j c, (s.del i).get j = some c → s.get j = some c := fun j c hj => by
    rw [St.get_del _ _ hm] at hj
    by_cases e : i = j
    · simp [e] at hj
    · simpa [e] using hj
  exact ⟨by rw [St.next_del]; exact h.fresh, by rw [St.next_del]; exact h.base, by rw [St.next_del]; exact h.most, fun j c hj => h.live j c (old j c hj), fun j c hv => by
      obtain ⟨h1, h2, h3, h4⟩ := h.virt j c hv
      have e : i ≠ j := fun e => by subst e; rw [hnv] at hv; cases hv
      rw [St.get_del _ _ hm, if_neg e, St.next_del]
      exact ⟨h1, h2, h3, h4⟩,
    fun i j b b' L L' hg hi hj => h.inj i j b b' L L' hg (old _ _ hi) (old _ _ hj), fun j c L hj => h.own j c L (old _ _ hj), fun j c hj => h.glob j c (old _ _ hj), h.vars, h.size, h.nd⟩

def Rho.set (ρ : Rho) (i : Nat) (L : Loc) : Rho := fun j => if j = i then some L else ρ j

theorem Rho.ext_set {i : Nat} {L : Loc} (h : ρ i = none) : Ext ρ (ρ.set i L) := fun j M hM => by
  unfold Rho.set
  by_cases e : j = i
  · subst e; rw [h] at hM; cases hM
  · simp [e, hM]
theorem Rho.set_same (ρ : Rho) (i : Nat) (L : Loc) : ρ.set i L i = some L := by simp [Rho.set]

theorem St.new_eq {b : Blk} {i : Nat} {s' : St} (h : s.new b = some (i, s')) : i = s.next ∧ s.next < T.most + 1 ∧ s'.next = s.next + 1 ∧ (∀ j, s'.get j = if i = j then some b else s.get j) ∧ 0 < s.next := by
  obtain ⟨n, hp⟩ := s
  unfold St.new at h
  cases n with
  | zero => simp at h
  | succ k =>
    simp only at h
    split at h
    · rename_i hb
      simp only [Option.some.injEq, Prod.mk.injEq] at h
      obtain ⟨rfl, rfl⟩ := h
      have hk : k < T.most := by
        have : Nat.ble (k + 1) T.most = true := hb
        exact Nat.le_of_ble_eq_true this
      refine ⟨rfl, by show k + 1 < T.most + 1; omega, rfl, fun j => ?_, Nat.succ_pos _⟩
      exact T.get_set _ _ _ _
    · cases h

/-- A new name for a block that no live one has: one that is new, or one that has been forgotten. -/
theorem R.name (h : R B ρ σ s w) {b : Blk} {i : Nat} {s' : St} {L : Loc} {ob : Obj} (hs : s.new b = some (i, s')) (hob : w.heap[L.blk]? = some ob) (hB : ¬ B.b L.blk)
    (hne : ∀ j c M, s.get j = some c → ρ j = some M → M.blk ≠ L.blk) (hb : BO (ρ.set i L) σ L b ob) : Ext ρ (ρ.set i L) ∧ R B (ρ.set i L) σ s' w := by
  obtain ⟨rfl, hlt, hn, hg, hpos⟩ := St.new_eq hs
  have hx : Ext ρ (ρ.set s.next L) := Rho.ext_set (h.fresh _ (Nat.le_refl _))
  have old : ∀ j c, s'.get j = some c → j ≠ s.next → s.get j = some c := fun j c hj hne => by
    rw [hg] at hj; rwa [if_neg (Ne.symm hne)] at hj
  have oldρ : ∀ j, j ≠ s.next → ρ.set s.next L j = ρ j := fun j hj => by simp [Rho.set, hj]
  refine ⟨hx, fun j hj => ?_, by rw [hn]; have := h.base; omega, by rw [hn]; omega, fun j c hj => ?_, fun j c hv => ?_, fun j k c c' M M' hgj hj hk hjk hM hM' => ?_, fun j c M hj hM hgj => ?_, fun j c hj hlt' => ?_, fun g hgl => ?_, h.size, h.nd⟩
  · rw [hn] at hj; rw [oldρ j (by omega)]; exact h.fresh j (by omega)
  · by_cases e : j = s.next
    · subst e
      rw [hg] at hj; simp at hj; subst hj
      exact .inr ⟨L, ob, Rho.set_same _ _ _, hob, hb⟩
    · rcases h.live j c (old j c hj e) with ⟨h1, h2⟩ | ⟨M, o, hM, ho, hbo⟩
      · exact .inl ⟨by rw [oldρ j e]; exact h1, h2⟩
      · exact .inr ⟨M, o, hx _ _ hM, ho, hbo.ext hx⟩
  · obtain ⟨h1, h2, h3, h4⟩ := h.virt j c hv
    have e : j ≠ s.next := by omega
    rw [hg, if_neg (Ne.symm e), oldρ j e, hn]
    exact ⟨h1, h2, by omega, h4⟩
  · by_cases e1 : j = s.next
    · subst e1
      rw [Rho.set_same] at hM; cases hM
      rw [oldρ k (Ne.symm hjk)] at hM'
      exact (hne k c' M' (old k c' hk (Ne.symm hjk)) hM').symm
    · by_cases e2 : k = s.next
      · subst e2
        rw [Rho.set_same] at hM'; cases hM'
        rw [oldρ j e1] at hM
        exact hne j c M (old j c hj e1) hM
      · rw [oldρ j e1] at hM; rw [oldρ k e2] at hM'
        exact h.inj j k c c' M M' hgj (old _ _ hj e1) (old _ _ hk e2) hjk hM hM'
  · by_cases e : j = s.next
    · subst e; rw [Rho.set_same] at hM; cases hM; exact hB
    · rw [oldρ j e] at hM; exact h.own j c M (old j c hj e) hM hgj
  · have := h.base
    exact h.glob j c (old j c hj (by omega)) hlt'
  · have := h.base
    rw [oldρ g (by omega)]; exact h.vars g hgl

/-- A new block. -/
theorem R.new (h : R B ρ σ s w) {b : Blk} {i : Nat} {s' : St} {e : Nat} {ob : Obj} (hs : s.new b = some (i, s')) (k : New w ob w') (hb : BO ρ σ ⟨w.heap.size, 0, e⟩ b ob) :
    ∃ ρ', Ext ρ ρ' ∧ R B ρ' σ s' w' ∧ ρ' i = some ⟨w.heap.size, 0, e⟩ := by
  have h1 : R B ρ σ s w' := ⟨h.fresh, h.base, h.most, fun j c hj => by
      rcases h.live j c hj with hv | ⟨M, o, hM, ho, hbo⟩
      · exact .inl hv
      · exact .inr ⟨M, o, hM, by rw [k.other _ (lt_of_get ho)]; exact ho, hbo⟩, h.virt, h.inj, h.own, h.glob, h.vars, fun j hj => by have := h.size j hj; rw [k.size]; omega, h.nd⟩
  have hx : Ext ρ (ρ.set i ⟨w.heap.size, 0, e⟩) := Rho.ext_set (h.fresh _ (by rw [(St.new_eq hs).1]; exact Nat.le_refl _))
  obtain ⟨h2, h3⟩ := h1.name (L := ⟨w.heap.size, 0, e⟩) (ob := ob) hs k.here (fun hb => absurd (h.size _ hb) (Nat.lt_irrefl _)) (fun j c M hj hM => by
    obtain ⟨o, ho, _⟩ := h.here hj hM
    have := lt_of_get ho
    show M.blk ≠ w.heap.size
    omega) (hb.ext hx)
  exact ⟨_, h2, h3, Rho.set_same _ _ _⟩
end

end Go.Eng

/-! The engine's operations are the machine's (first part). No condition. -/
namespace Go.Eng
open Go.RowKit

/-- What the machine's operation comes to, by what the engine's comes to. -/
def NxOK (B : Base) (ρ ρ' : Rho) (σ : Nat → Value) (w w' : World) (nx : Next) : Res → Prop
  | .val a s' => R B ρ' σ s' w' ∧ ((∃ v, nx = .value v ∧ VR ρ' σ a v) ∨ (nx = .skip ∧ a = undefA))
  | .enter f args s' => R B ρ' σ s' w' ∧ ∃ va, nx = .enter f va ∧ VRs ρ' σ args va.toList
  | .round l args => ρ' = ρ ∧ w' = w ∧ ∃ L va, ρ' l = some L ∧ VRs ρ' σ args va ∧
      ∃ lp : Loop, w.heap[L.blk]? = some (.loop lp) ∧ va.length = lp.params.size ∧
        nx = .round L.blk lp.fn ((lp.params.toList.zip va).foldl (fun tmps (t, a) => tmps.setIfInBounds t a) lp.tmps) lp.assign lp.body
  | .defer (.call f args) => ρ' = ρ ∧ w' = w ∧ ∃ va vc, nx = .defer { target := .fn (.func f) vc, args := va } ∧ VRs ρ' σ args (va ++ vc).toList
  | .defer (.collected _) => False
  | .recover => ρ' = ρ ∧ w' = w ∧ nx = .recover
  | .panic _ => False

def ResOK (B : Base) (ρ : Rho) (σ : Nat → Value) (r : Res) (w : World) : Result Next → Prop
  | .ok nx w' => Kept B.b w w' ∧ ∃ ρ', Ext ρ ρ' ∧ NxOK B ρ ρ' σ w w' nx r
  | .halt (.panic v) w' => w' = w ∧ ∃ a, r = .panic a ∧ VR ρ σ a v
  | _ => False

section
variable {E : Env} {B : Base} {ρ : Rho} {σ : Nat → Value} {s : St} {w : World} {tm : T AV} {ev : Operand → Value}

theorem res_val (h : R B ρ σ s w) {a : AV} {v : Value} (hv : VR ρ σ a v) : ResOK B ρ σ (.val a s) w (.ok (.value v) w) :=
  ⟨Kept.refl _ _, ρ, Ext.refl _, h, .inl ⟨v, rfl, hv⟩⟩

theorem val1_spec {o : Option AV} {r : Res} (h : val1 s o = some r) : ∃ a, o = some a ∧ r = .val a s := by
  unfold val1 at h
  cases o with
  | none => cases h
  | some a => cases h; exact ⟨a, rfl, rfl⟩

theorem ob_spec {α β : Type} {o : Option α} {f : α → Option β} {b : β} (h : ob o f = some b) : ∃ a, o = some a ∧ f a = some b := by
  cases o with
  | none => cases h
  | some a => exact ⟨a, rfl, h⟩

/-- Operands. -/
def EvOK (ρ : Rho) (σ : Nat → Value) (tm : T AV) (ev : Operand → Value) : Prop := ∀ x a, aeval tm x = some a → VR ρ σ a (ev x)

theorem EvOK.of (h : R B ρ σ s w) {nt : Nat} {tmps : Array Value} (tr : TR ρ σ tm nt tmps) {ev : Operand → Value}
    (h1 : ∀ t, ev (.tmp t) = tmps.getD t undef) (h2 : ∀ v, ev (.const v) = v) (h3 : ∀ g, ev (.global g) = .pointer (some ⟨g, 0, none⟩)) (h4 : ∀ f, ev (.func f) = .func (.func f) #[] #[]) :
    EvOK ρ σ tm ev := by
  intro x a hx
  cases x with
  | tmp t => have : aeval tm (.tmp t) = some (tget tm t) := rfl
             rw [this] at hx; cases hx; rw [h1]; exact tr.vals t
  | const v => have : aeval tm (.const v) = absV v := rfl
               rw [this] at hx; rw [h2]; exact absV_rel hx
  | global g =>
    have : aeval tm (.global g) = Bool.rec (motive := fun _ => Option AV) none (some (.ptr g 0)) (Nat.blt g 500) := rfl
    rw [this] at hx
    cases hb : Nat.blt g 500 with
    | false => rw [hb] at hx; cases hx
    | true =>
      rw [hb] at hx; cases hx; rw [h3]
      have hlt : g < vN := by
        have : Nat.ble (g + 1) 500 = true := hb
        exact Nat.le_of_ble_eq_true this
      obtain ⟨L, he, hv⟩ := h.vars g (Nat.lt_of_lt_of_le hlt (by unfold vN gN; omega))
      obtain ⟨h1, h2⟩ := hv hlt
      exact ⟨_, he, by rw [h1, h2]⟩
  | func f => have : aeval tm (.func f) = some (.func f [] []) := rfl
              rw [this] at hx; cases hx; rw [h4]; exact ⟨#[], #[], rfl, rfl, rfl⟩

theorem aevals_rel (he : EvOK ρ σ tm ev) : ∀ {xs : List Operand} {l : List AV}, aevals tm xs = some l → VRs ρ σ l (xs.map ev)
  | [], l, h => by simp [aevals] at h; subst h; rfl
  | x :: xs, l, h => by
    unfold aevals at h
    split at h
    · rename_i v hv
      split at h
      · rename_i vs hvs
        cases h
        exact ⟨_, _, rfl, he x v hv, aevals_rel he hvs⟩
      · cases h
    · cases h

/-! ### Memory -/
theorem addr_add (b o n : Nat) : (⟨b, o, none⟩ : Addr).add n = ⟨b, o + n, none⟩ := by
  unfold Addr.add; split <;> simp_all

theorem cell_at {w : World} {g o : Nat} {c : Array Value} {t : TypeId} {fr : Nat × Nat} (h : w.heap[g]? = some (.cells c t fr)) : w.cell? ⟨g, o, none⟩ = c[o]? := cell_of_row w g o c t fr h

/-- The cells of a known part of a block. -/
theorem cells_known {L : Loc} {cs : List AV} {c : Array Value} (h : VRs ρ σ cs ((c.toList.drop L.sh).take cs.length)) {i : Nat} {a : AV} (hi : cs[i]? = some a) :
    ∃ v, c[L.sh + i]? = some v ∧ VR ρ σ a v := by
  obtain ⟨v, hv, hr⟩ := h.nth hi
  refine ⟨v, ?_, hr⟩
  have hlt : i < cs.length := (List.getElem?_eq_some_iff.1 hi).1
  rw [List.getElem?_take, if_pos hlt, List.getElem?_drop] at hv
  simpa using hv

theorem run_load_known {P : Program} {w : World} {g o : Nat} {c : Array Value} {t : TypeId} {fr : Nat × Nat} {v : Value} (h : w.heap[g]? = some (.cells c t fr)) (hv : c[o]? = some v) :
    (load ⟨g, o, none⟩).run P w = .ok v w := by
  rw [run_load, cell_at h, hv]

/-- So many cells from a place on. -/
theorem run_loadCells_known {P : Program} {w : World} {g o n : Nat} {c : Array Value} {t : TypeId} {fr : Nat × Nat} (h : w.heap[g]? = some (.cells c t fr)) (hn : o + n ≤ c.size) :
    (loadCells ⟨g, o, none⟩ n).run P w = .ok ((c.toList.drop o).take n).toArray w := by
  have hl : ((c.toList.drop o).take n).length = n := by simp; omega
  have := run_loadCells_list (P := P) (w := w) ⟨g, o, none⟩ ((c.toList.drop o).take n) (fun j v hj => by
    rw [addr_add, cell_at h]
    have hjn : j < n := by have := (List.getElem?_eq_some_iff.1 hj).1; omega
    rw [List.getElem?_take, if_pos hjn, List.getElem?_drop] at hj
    simpa using hj)
  rw [hl] at this
  exact this

theorem R.block (h : R B ρ σ s w) {i : Nat} {cs : List AV} {el : TypeId} {wr : Bool} (hi : s.get i = some (.cells cs el wr)) {L : Loc} (hL : ρ i = some L) :
    ∃ c t fr, w.heap[L.blk]? = some (.cells c t fr) ∧ (el ≠ unkT → t = elOf el) ∧ VRs ρ σ cs ((c.toList.drop L.sh).take cs.length) ∧ cs.length ≤ L.ext ∧ L.sh + L.ext ≤ c.size ∧ (wr = true → ∀ o, o < c.size → ¬ (fr.1 ≤ o ∧ o < fr.2)) := by
  obtain ⟨ob, hob, hb⟩ := h.here hi hL
  obtain ⟨c, t, fr, rfl, ht, _, r⟩ := hb
  exact ⟨c, t, fr, hob, ht, r⟩
theorem R.head (h : R B ρ σ s w) {i : Nat} {cs : List AV} {el : TypeId} {wr : Bool} (hi : s.get i = some (.cells cs el wr)) {L : Loc} (hL : ρ i = some L) (he : el < tailN) : L.sh = 0 := by
  obtain ⟨ob, hob, hb⟩ := h.here hi hL
  obtain ⟨c, t, fr, rfl, _, z, _⟩ := hb
  exact z he

theorem take_sub {α : Type} (l : List α) (o n m : Nat) (h : o + n ≤ m) : ((l.take m).drop o).take n = (l.drop o).take n := by
  rw [List.drop_take, List.take_take]
  congr 1
  omega

theorem loadA_spec (ok : EnvOK E) (h : R B ρ σ s w) {t : TypeId} {i o : Nat} {a : AV} (hx : loadA E s t i o = some a) {L : Loc} (hL : ρ i = some L) :
    ∃ v, (loadVar t ⟨L.blk, L.sh + o, none⟩).run E.P w = .ok v w ∧ VR ρ σ a v := by
  unfold loadA at hx
  split at hx
  · cases hx
  rename_i ti hti
  split at hx
  case h_2 => cases hx
  rename_i cs el wr hi
  obtain ⟨c, bt, fr, hc, _, hv, hle, hsz, _⟩ := h.block hi hL
  have hagg := ok.run_isAgg hti w
  have hsize : (sizeOf t).run E.P w = .ok ti.size w := ok.run_sz (by simp [szOf, hti]) w
  split at hx
  · rename_i hA
    split at hx
    case h_2 => cases hx
    rename_i l hl
    cases hx
    obtain ⟨h1, h2⟩ := sub_eq hl
    rw [hA] at hagg
    refine ⟨.agg ((c.toList.drop (L.sh + o)).take ti.size).toArray, ?_, _, rfl, ?_⟩
    · have := run_loadCells_known (P := E.P) (o := L.sh + o) (n := ti.size) hc (by omega)
      simp [loadVar, hagg, hsize, this]
    · rw [h1]
      have := (hv.drop o).take ti.size
      rw [take_sub _ _ _ _ h2, List.drop_drop] at this
      simpa using this
  · rename_i hA
    rw [nth_eq] at hx
    obtain ⟨v, hv1, hv2⟩ := cells_known hv hx
    rw [hA] at hagg
    refine ⟨v, ?_, hv2⟩
    simp only [loadVar, Sem.run_bind, hagg, Result.andThen_ok, Bool.false_eq_true, if_false]
    exact run_load_known (P := E.P) (o := L.sh + o) hc hv1
end
end Go.Eng

/-! The engine's operations are the machine's: stores, new blocks, and the small operations. No condition. -/
namespace Go.Eng
open Go.RowKit

theorem over_eq {α : Type} : ∀ (l : List α) (o : Nat) (vs r : List α), over l o vs = some r → r = l.take o ++ vs ++ l.drop (o + vs.length) ∧ o + vs.length ≤ l.length
  | l, 0, [], r, h => by
    have : over l 0 [] = some l := by cases l <;> rfl
    rw [this] at h; cases h; simp
  | [], 0, v :: vs, r, h => by simp [over] at h
  | a :: l, 0, v :: vs, r, h => by
    unfold over at h
    split at h
    · rename_i r' hr
      cases h
      obtain ⟨h1, h2⟩ := over_eq l 0 vs r' hr
      subst h1
      simp at h2 ⊢
      exact h2
    · cases h
  | [], o + 1, vs, r, h => by simp [over] at h
  | a :: l, o + 1, vs, r, h => by
    unfold over at h
    split at h
    · rename_i r' hr
      cases h
      obtain ⟨h1, h2⟩ := over_eq l o vs r' hr
      subst h1
      refine ⟨?_, by simp; omega⟩
      have : o + 1 + vs.length = (o + vs.length) + 1 := by omega
      simp [this]
    · cases h

theorem splice_list {α : Type} (C vs : List α) (sh o m : Nat) (h : sh + m ≤ C.length) (ho : o + vs.length ≤ m) :
    ((C.take (sh + o) ++ vs ++ C.drop (sh + o + vs.length)).drop sh).take m = ((C.drop sh).take m).take o ++ vs ++ ((C.drop sh).take m).drop (o + vs.length) := by
  have e1 : C.take (sh + o) = C.take sh ++ (C.drop sh).take o := by rw [List.take_add]
  have e2 : C.drop (sh + o + vs.length) = (C.drop sh).drop (o + vs.length) := by rw [List.drop_drop]; congr 1; omega
  have l1 : (C.take sh).length = sh := by simp; omega
  generalize hA : C.take sh = A at *
  generalize hD : C.drop sh = D at *
  have hDl : m ≤ D.length := by rw [← hD]; simp; omega
  rw [e1, e2, List.append_assoc, List.append_assoc, List.drop_append_of_le_length (by omega), ← l1, List.drop_length, List.nil_append]
  have l2 : (D.take o).length = o := by simp; omega
  rw [List.take_append, l2, List.take_append, List.take_take, List.take_take, List.drop_take, List.take_of_length_le (l := vs) (by omega), Nat.min_eq_right (by omega : o ≤ m), Nat.min_eq_left (by omega : o ≤ m), List.append_assoc]
  congr 3
  omega

section
variable {E : Env} {B : Base} {ρ : Rho} {σ : Nat → Value} {s : St} {w : World} {tm : T AV} {ev : Operand → Value}

theorem splice_rel {cs va cs' : List AV} {C vs : List Value} {sh o : Nat} (h : VRs ρ σ cs ((C.drop sh).take cs.length)) (hov : over cs o va = some cs') (hvs : VRs ρ σ va vs) (hl : sh + cs.length ≤ C.length) :
    VRs ρ σ cs' (((C.take (sh + o) ++ vs ++ C.drop (sh + o + vs.length)).drop sh).take cs'.length) ∧ cs'.length = cs.length ∧ o + vs.length ≤ cs.length := by
  obtain ⟨h1, h2⟩ := over_eq _ _ _ _ hov
  have hlen := hvs.length
  have hl' : cs'.length = cs.length := by rw [h1]; simp; omega
  refine ⟨?_, hl', by omega⟩
  rw [hl', splice_list C vs sh o cs.length hl (by omega), h1, ← hlen]
  exact ((h.take o).append hvs).append (h.drop (o + vs.length))

theorem Upd.refl {w : World} {g : Nat} {ob : Obj} (h : w.heap[g]? = some ob) : Upd w g ob w := ⟨rfl, rfl, rfl, rfl, h, fun _ _ => rfl⟩

theorem upd_setCell {w : World} {g o : Nat} {c : Array Value} {t : TypeId} {fr : Nat × Nat} (h : w.heap[g]? = some (.cells c t fr)) (v : Value) :
    Upd w g (.cells (c.setIfInBounds o v) t fr) (w.setCell ⟨g, o, none⟩ v) := by
  refine ⟨rfl, rfl, rfl, by simp, ?_, fun k hk => heap_setCell_other _ _ _ _ hk⟩
  simp [World.setCell, Array.getElem?_modify, h]

theorem frozen_at {w : World} {g o : Nat} {c : Array Value} {t : TypeId} {fr : Nat × Nat} (h : w.heap[g]? = some (.cells c t fr)) (hf : ¬ (fr.1 ≤ o ∧ o < fr.2)) : w.frozen? ⟨g, o, none⟩ = false := by
  obtain ⟨lo, hi⟩ := fr
  simp only [World.frozen?, h]
  simp at hf ⊢
  exact hf

theorem run_storeCells_known {P : Program} {g o : Nat} {t : TypeId} {fr : Nat × Nat} : ∀ (vs : List Value) (i : Nat) (c : Array Value) (w : World), w.heap[g]? = some (.cells c t fr) →
    (∀ o, o < c.size → ¬ (fr.1 ≤ o ∧ o < fr.2)) → o + i + vs.length ≤ c.size → (∀ v ∈ vs, v.oneCell' = true) →
    ∃ w' c', (storeCells ⟨g, o, none⟩ vs i).run P w = .ok () w' ∧ Upd w g (.cells c' t fr) w' ∧ c'.toList = c.toList.take (o + i) ++ vs ++ c.toList.drop (o + i + vs.length) ∧ c'.size = c.size
  | [], i, c, w, h, _, _, _ => ⟨w, c, by simp [storeCells], Upd.refl h, by simp, rfl⟩
  | v :: vs, i, c, w, h, hf, hl, h1 => by
    have hlt : o + i < c.size := by simp at hl; omega
    have hst : (store ⟨g, o + i, none⟩ v).run P w = .ok () (w.setCell ⟨g, o + i, none⟩ v) := by
      rw [run_store P w _ v .plain (h1 v (by simp)), cell_at h, frozen_at h (hf _ hlt)]
      simp [hlt]
    have hu := upd_setCell (o := o + i) h v
    obtain ⟨w', c', hr, hu', hc', hs'⟩ := run_storeCells_known (P := P) (o := o) vs (i + 1) (c.setIfInBounds (o + i) v) _ hu.here (by simpa using hf) (by simp at hl ⊢; omega) (fun u hu => h1 u (by simp [hu]))
    refine ⟨w', c', ?_, hu.trans hu', ?_, by simpa using hs'⟩
    · simp only [storeCells, addr_add, Sem.run_bind, hst, Result.andThen_ok, hr]
    · have hp : o + i < c.toList.length := by simpa using hlt
      have l1 : (c.toList.take (o + i)).length = o + i := by simp; omega
      rw [hc', Array.toList_setIfInBounds, List.set_eq_take_append_cons_drop, if_pos hp]
      have e1 : o + (i + 1) = (c.toList.take (o + i)).length + 1 := by omega
      have e2 : o + (i + 1) + vs.length = (c.toList.take (o + i)).length + (1 + vs.length) := by omega
      rw [e2, e1, List.take_length_add_append, List.drop_length_add_append]
      have e3 : o + i + (v :: vs).length = o + i + 1 + vs.length := by simp; omega
      rw [e3, show (1 + vs.length) = vs.length + 1 by omega, List.drop_succ_cons, List.drop_drop]
      simp

theorem storeA_spec (ok : EnvOK E) (h : R B ρ σ s w) {t : TypeId} {i o : Nat} {a : AV} {s' : St} (hx : storeA E s t i o a = some s') {L : Loc} (hL : ρ i = some L) {v : Value} (hv : VR ρ σ a v) :
    ∃ w', (storeVar t ⟨L.blk, L.sh + o, none⟩ v).run E.P w = .ok () w' ∧ Kept B.b w w' ∧ R B ρ σ s' w' := by
  unfold storeA at hx
  simp only [overF_eq] at hx
  split at hx
  · cases hx
  rename_i ti hti
  split at hx
  case h_2 => cases hx
  rename_i cs el hi
  split at hx
  case h_2 => cases hx
  rename_i hlen
  split at hx
  case h_2 => cases hx
  rename_i hone
  split at hx
  case h_2 => cases hx
  rename_i cs' hov
  cases hx
  obtain ⟨c, bt, fr, hc, hbt, hvs, hle, hsz, hfr⟩ := h.block hi hL
  have hsize : (sizeOf t).run E.P w = .ok ti.size w := ok.run_sz (by simp [szOf, hti]) w
  have hcells := hv.cells'
  have hl := hcells.length
  have hlen' : a.cells.length = ti.size := by rw [← len_eq]; exact Nat.eq_of_beq_eq_true hlen
  obtain ⟨h1, h2, h3⟩ := splice_rel (sh := L.sh) (C := c.toList) hvs hov hcells (by simp; omega)
  obtain ⟨w', c', hr, hu, hc', hs'⟩ := run_storeCells_known (P := E.P) (o := L.sh + o) v.cells.toList 0 c w hc (hfr rfl) (by simp at h3 ⊢; omega) (allOne_spec hone hcells)
  have hg : gN ≤ i := by
    rcases Nat.lt_or_ge i gN with hlt | hge
    · obtain ⟨_, _, e⟩ := h.glob i _ hi hlt; cases e
    · exact hge
  refine ⟨w', ?_, hu.below (h.own i _ L hi hL hg), h.upd hi hL hg hu ⟨c', bt, fr, rfl, hbt, fun e => h.head hi hL e, ?_, by omega, by omega, fun _ => by rw [hs']; exact hfr rfl⟩⟩
  · have : v.cells.size = ti.size := by rw [← hlen']; simpa using hl
    simp [storeVar, hsize, this, hr]
  · rw [hc']; simpa using h1
end
end Go.Eng

/-! The engine's operations are the machine's: the small operations. No condition. -/
namespace Go.Eng
open Go.RowKit

section
variable {E : Env} {B : Base} {ρ ρ' : Rho} {σ : Nat → Value} {s s' : St} {w w' : World} {tm : T AV} {ev : Operand → Value} {r : Res}

theorem res_of_val {P : Program} {x : Sem Value} {a : AV} {v : Value} (hx : x.run P w = .ok v w') (hb : Kept B.b w w') (hρ : Ext ρ ρ') (hR : R B ρ' σ s' w') (hv : VR ρ' σ a v) :
    ResOK B ρ σ (.val a s') w ((do pure (Next.value (← x)) : Sem Next).run P w) := by
  simp only [Sem.run_bind, hx, Result.andThen_ok, Sem.run_pure]
  exact ⟨hb, ρ', hρ, hR, .inl ⟨v, rfl, hv⟩⟩
theorem res_of_val0 {P : Program} (h : R B ρ σ s w) {x : Sem Value} {a : AV} {v : Value} (hx : x.run P w = .ok v w) (hv : VR ρ σ a v) :
    ResOK B ρ σ (.val a s) w ((do pure (Next.value (← x)) : Sem Next).run P w) := res_of_val hx (Kept.refl _ _) (Ext.refl _) h hv
theorem res_of_unit {P : Program} {x : Sem Unit} (hx : x.run P w = .ok () w') (hb : Kept B.b w w') (hρ : Ext ρ ρ') (hR : R B ρ' σ s' w') :
    ResOK B ρ σ (.val undefA s') w ((do x; pure Next.skip : Sem Next).run P w) := by
  simp only [Sem.run_bind, hx, Result.andThen_ok, Sem.run_pure]
  exact ⟨hb, ρ', hρ, hR, .inr ⟨rfl, rfl⟩⟩

theorem run_newRow {P : Program} (elem : TypeId) (c : Array Value) : (newRow elem c).run P w = .ok ⟨w.heap.size, 0, none⟩ (w.alloc (.cells c elem)) := by
  simp [newRow]

theorem elOf_head {el : TypeId} (h : Nat.blt el 1000000 = true) : elOf el = el := by
  have : Nat.ble (el + 1) 1000000 = true := h
  have := Nat.le_of_ble_eq_true this
  unfold elOf tailN
  exact if_pos this

theorem newCells_ok (h : R B ρ σ s w) {cs : List AV} {el : TypeId} {i : Nat} (hn : newCells s cs el = some (i, s')) {c : Array Value} {ex : List Value} (hc : ∃ vs, c.toList = vs ++ ex ∧ VRs ρ σ cs vs)
    (k : New w (.cells c el) w') : ∃ ρ', Ext ρ ρ' ∧ R B ρ' σ s' w' ∧ ρ' i = some ⟨w.heap.size, 0, c.size⟩ := by
  obtain ⟨vs, hc, hv⟩ := hc
  have hl := hv.length
  unfold newCells at hn
  split at hn
  case h_2 => cases hn
  rename_i hel
  refine h.new hn k ⟨c, el, (0, 0), rfl, fun _ => (elOf_head hel).symm, fun _ => rfl, ?_, ?_, by simp, fun _ o _ => by simp⟩
  · rw [List.drop_zero, hc, ← hl, List.take_left']
    · exact hv
    · rfl
  · have : c.size = vs.length + ex.length := by rw [← List.length_append, ← hc]; simp
    show cs.length ≤ c.size
    omega

variable (ok : EnvOK E) (h : R B ρ σ s w) (he : EvOK ρ σ tm ev)

include h he in
theorem oMove_ok {P : Program} {x : Operand} (hx : oMove tm s x = some r) : ResOK B ρ σ r w ((pure (.value (ev x)) : Sem Next).run P w) := by
  obtain ⟨a, ha, rfl⟩ := val1_spec hx
  exact res_val h (he x a ha)

include h he in
theorem oPick_ok {P : Program} {c a b : Operand} (hx : oPick tm s c a b = some r) : ResOK B ρ σ r w ((do pure (.value (if ← asBool (ev c) then ev a else ev b)) : Sem Next).run P w) := by
  unfold oPick at hx
  split at hx
  · rename_i hc
    have hc := he c _ hc
    simp only [VR] at hc
    obtain ⟨x, hx', rfl⟩ := val1_spec hx
    simp only [hc, asBool, Sem.run_bind, Sem.run_pure, Result.andThen_ok, if_true]
    exact res_val h (he _ _ hx')
  · rename_i hc
    have hc := he c _ hc
    simp only [VR] at hc
    obtain ⟨x, hx', rfl⟩ := val1_spec hx
    simp only [hc, asBool, Sem.run_bind, Sem.run_pure, Result.andThen_ok, Bool.false_eq_true, if_false]
    exact res_val h (he _ _ hx')
  · cases hx

include ok h in
theorem oAlloc_ok {t : TypeId} (hx : oAlloc E s t = some r) : ResOK B ρ σ r w ((do pure (.value (← Instr.alloc t true (.tuple #[]))) : Sem Next).run E.P w) := by
  unfold oAlloc at hx
  split at hx
  case h_2 => cases hx
  rename_i z hz
  split at hx
  case h_2 => cases hx
  rename_i i s' hn
  cases hx
  obtain ⟨v, hv, hr⟩ := ok.run_zero hz w
  obtain ⟨ρ', hρ, hR, hi⟩ := newCells_ok h hn (c := v.cells) (ex := []) ⟨v.cells.toList, by simp, (hr ρ σ).cells'⟩ (New.alloc w _)
  refine res_of_val (v := .pointer (some ⟨w.heap.size, 0, none⟩)) ?_ ((New.alloc w _).below h.size) hρ hR ⟨_, hi, by simp⟩
  simp only [Instr.alloc, Sem.run_bind, hv, Result.andThen_ok, newVar, run_newRow, Sem.run_pure]

include h he in
theorem oBox_ok {P : Program} {t : TypeId} {x : Operand} (hx : oBox tm s t x = some r) : ResOK B ρ σ r w ((do pure (.value (← Instr.box t (ev x))) : Sem Next).run P w) := by
  unfold oBox at hx
  split at hx
  case h_2 => cases hx
  rename_i a ha
  split at hx
  case h_2 => cases hx
  split at hx
  case h_2 => cases hx
  rename_i i s' hn
  cases hx
  have hr := he x a ha
  obtain ⟨ρ', hρ, hR, hi⟩ := newCells_ok h hn (c := (ev x).cells) (ex := []) ⟨(ev x).cells.toList, by simp, hr.cells'⟩ (New.alloc w _)
  refine res_of_val (v := .pointer (some ⟨w.heap.size, 0, none⟩)) ?_ ((New.alloc w _).below h.size) hρ hR ⟨_, hi, by simp⟩
  simp only [Instr.box, newVar, Sem.run_bind, run_newRow, Result.andThen_ok, Sem.run_pure]

include ok h he in
theorem oLoad_ok {t : TypeId} {x : Operand} (hx : oLoad E tm s t x = some r) : ResOK B ρ σ r w ((do pure (.value (← Instr.loadAt t (ev x))) : Sem Next).run E.P w) := by
  unfold oLoad at hx
  split at hx
  case h_2 => cases hx
  rename_i i o ha
  obtain ⟨a, hl, rfl⟩ := val1_spec hx
  obtain ⟨L, hL, hp⟩ := he x _ ha
  obtain ⟨v, hv, hr⟩ := loadA_spec ok h hl hL
  refine res_of_val0 h (v := v) ?_ hr
  simp only [hp, Instr.loadAt, Instr.sureAddr, Sem.run_bind, Sem.run_pure, Result.andThen_ok, hv]

include ok h he in
theorem oStore_ok {t : TypeId} {x y : Operand} (hx : oStore E tm s t x y = some r) : ResOK B ρ σ r w ((do Instr.storeAt t (ev x) (ev y); pure .skip : Sem Next).run E.P w) := by
  unfold oStore at hx
  split at hx
  case h_2 => cases hx
  rename_i i o ha
  split at hx
  · cases hx
  rename_i b hb
  split at hx
  case h_2 => cases hx
  rename_i s' hs
  cases hx
  obtain ⟨L, hL, hp⟩ := he x _ ha
  obtain ⟨w', hw, hbl, hR⟩ := storeA_spec ok h hs hL (he y _ hb)
  refine res_of_unit ?_ hbl (Ext.refl _) hR
  simp only [hp, Instr.storeAt, Instr.sureAddr, Sem.run_bind, Sem.run_pure, Result.andThen_ok, hw]

include h he in
theorem oUn_ok {P : Program} {op : UnOp} {x : Operand} (hw : ∀ k n, fastWrap k n = k.wrap n) (hx : oUn tm s op x = some r) : ResOK B ρ σ r w ((do pure (.value (← Op.unary op (ev x))) : Sem Next).run P w) := by
  unfold oUn at hx
  split at hx
  · rename_i b hb
    have hv := he x _ hb
    simp only [VR] at hv
    split at hx
    case h_2 => cases hx
    cases hx
    exact res_of_val0 h (v := .bool (!b)) (by simp [hv, Op.unary]) rfl
  · rename_i k n hb
    have hv := he x _ hb
    simp only [VR] at hv
    split at hx
    case h_2 => cases hx
    cases hx
    exact res_of_val0 h (v := .int k (k.wrap (0 - n))) (by simp [hv, Op.unary, Op.intArith]) (by rw [hw]; rfl)
  · cases hx

include ok h he in
theorem oIface_ok {t : TypeId} {x : Operand} (hx : oIface E tm s t x = some r) : ResOK B ρ σ r w ((do pure (.value (← Instr.makeInterface t (ev x))) : Sem Next).run E.P w) := by
  unfold oIface at hx
  split at hx
  · cases hx
  · cases hx
  · cases hx
  rename_i d hn _ hd
  split at hx
  case h_2 => cases hx
  rename_i a ha
  cases hx
  refine res_of_val0 h (v := .iface t (ev x)) ?_ ⟨_, rfl, he x a ha⟩
  have hu := ok.run_und hd w
  simp only [Instr.makeInterface, Sem.run_bind, hu, Result.andThen_ok]
  cases d <;> first | rfl | exact absurd rfl (hn _)

include h he in
theorem oFunc_ok {P : Program} {fn : Fn} {a b : Array Operand} (hx : oFunc tm s fn a b = some r) : ResOK B ρ σ r w ((do pure (.value (← Instr.makeFunc fn (a.map ev) (b.map ev))) : Sem Next).run P w) := by
  unfold oFunc at hx
  split at hx
  case h_2 => cases hx
  split at hx
  · cases hx
  rename_i xs hxs
  split at hx
  case h_2 => cases hx
  rename_i ys hys
  cases hx
  refine res_of_val0 h (v := _) rfl ⟨_, _, rfl, ?_, ?_⟩
  · simpa using aevals_rel he hxs
  · simpa using aevals_rel he hys

include ok h in
theorem oMap_ok {t : TypeId} {ro : Option Operand} (he : EvOK ρ σ tm ev) (hx : oMap E tm s t ro = some r) : ResOK B ρ σ r w ((do pure (.value (← Instr.makeMap t (ro.map ev))) : Sem Next).run E.P w) := by
  unfold oMap at hx
  split at hx
  case h_2 => cases hx
  rename_i kt et hd
  split at hx
  case h_2 => cases hx
  rename_i hres
  split at hx
  case h_2 => cases hx
  rename_i i s' hn
  cases hx
  obtain ⟨ρ', hρ, hR, hi⟩ := h.new (e := 0) hn (New.alloc w (.map #[] 0)) ⟨rfl, #[], rfl, rfl⟩
  refine res_of_val (v := .map (some w.heap.size)) ?_ ((New.alloc w _).below h.size) hρ hR ⟨_, hi, rfl⟩
  have hu := ok.run_und hd w
  cases ro with
  | none => simp [Instr.makeMap]
  | some x =>
    simp only at hres
    split at hres
    · rename_i k n ha
      have hv := he x _ ha
      simp only [VR] at hv
      simp [Instr.makeMap, hu, hv, asInt, asIntOf]
    · cases hres

include h he in
theorem oExtract_ok {P : Program} {x : Operand} {i : Nat} (hx : oExtract tm s x i = some r) : ResOK B ρ σ r w ((do pure (.value (← Instr.extract (ev x) i)) : Sem Next).run P w) := by
  unfold oExtract at hx
  split at hx
  case h_2 => cases hx
  rename_i vs ha
  obtain ⟨a, hl, rfl⟩ := val1_spec hx
  obtain ⟨us, hv, hr⟩ := he x _ ha
  rw [nth_eq] at hl
  obtain ⟨v, hv1, hv2⟩ := hr.nth hl
  refine res_of_val0 h (v := v) ?_ hv2
  have : us[i]? = some v := by simpa using hv1
  simp [hv, Instr.extract, this]

include he in
theorem oPanic_ok {P : Program} {x : Operand} (hx : oPanic tm x = some r) : ResOK B ρ σ r w ((do pure (.value (← Instr.panic (ev x))) : Sem Next).run P w) := by
  unfold oPanic at hx
  split at hx
  case h_2 => cases hx
  rename_i t v ha
  cases hx
  obtain ⟨u, hv, hr⟩ := he x _ ha
  simp only [hv, Instr.panic, Sem.run_bind, run_goPanic, Result.andThen_halt]
  exact ⟨rfl, _, rfl, u, rfl, hr⟩

include ok h he in
theorem oFieldAddr_ok {t : TypeId} {x : Operand} {f : Nat} (hx : oFieldAddr E tm s t x f = some r) : ResOK B ρ σ r w ((do pure (.value (← Instr.fieldAt t (ev x) f)) : Sem Next).run E.P w) := by
  unfold oFieldAddr at hx
  split at hx
  case h_2 => cases hx
  rename_i fs hd
  split at hx
  case h_2 => cases hx
  rename_i i o ha
  split at hx
  · cases hx
  rename_i fd hf
  split at hx
  case h_2 => cases hx
  rename_i z hz
  cases hx
  obtain ⟨L, hL, hp⟩ := he x _ ha
  refine res_of_val0 h (v := .pointer (some ⟨L.blk, L.sh + o + fd.offset, none⟩)) ?_ ⟨L, hL, by rw [Nat.add_assoc]⟩
  have hu := ok.run_und hd w
  have hs := ok.run_sz hz w
  rw [nth_eq] at hf
  have hf' : fs[f]? = some fd := by simpa using hf
  simp [Instr.fieldAt, hu, hf', hp, Instr.sureAddr, fieldPlace, hs, addr_add]

include h he in
theorem oNil_ok {x : Operand} (hx : oNil tm s x = some r) {o : Oper} (ho : o.op = .nilCheck x) : ResOK B ρ σ r w ((execOp ev o).run E.P w) := by
  unfold oNil at hx
  split at hx
  · rename_i i p ha
    cases hx
    obtain ⟨L, hL, hp⟩ := he x _ ha
    simp only [execOp, ho, hp]
    exact res_val h ⟨L, hL, rfl⟩
  · rename_i f a b ha
    cases hx
    have hv := he x _ ha
    obtain ⟨va, vb, hp, h1, h2⟩ := hv
    simp only [execOp, ho, hp]
    exact res_val h ⟨va, vb, rfl, h1, h2⟩
  · cases hx
end
end Go.Eng

/-! The engine's operations are the machine's: numbers, strings, '=='. No condition. -/
namespace Go.Eng
open Go.RowKit

theorem blt_iff (a b : Nat) : Nat.blt a b = decide (a < b) := by
  show Nat.ble (a + 1) b = _
  rw [Bool.eq_iff_iff, Nat.ble_eq]; simp; omega
theorem beq_iff (a b : Nat) : Nat.beq a b = decide (a = b) := by
  rw [Bool.eq_iff_iff]; simp

theorem wrap_i64_nat (m : Nat) (h : m < 9223372036854775808) : IntKind.i64.wrap (.ofNat m) = .ofNat m := by
  unfold IntKind.wrap
  simp only [IntKind.bits, IntKind.signed, Int.ofNat_eq_natCast]
  have e : ((m : Int) % 2 ^ 64) = m := by omega
  simp only [e]
  simp; omega
theorem wrap_i64_neg (m : Nat) (h : m < 9223372036854775808) : IntKind.i64.wrap (.negSucc m) = .negSucc m := by
  unfold IntKind.wrap
  simp only [IntKind.bits, IntKind.signed, Int.negSucc_eq]
  have e : ((-((m : Int) + 1)) % 2 ^ 64) = 2 ^ 64 - (m + 1) := by omega
  simp only [e]
  simp; omega
theorem fastWrap_eq (k : IntKind) (n : Int) : fastWrap k n = k.wrap n := by
  unfold fastWrap
  split
  · split
    · split
      · rename_i hb; rw [blt_iff] at hb; exact (wrap_i64_nat _ (by simpa using hb)).symm
      · rfl
    · split
      · rename_i hb; rw [blt_iff] at hb; exact (wrap_i64_neg _ (by simpa using hb)).symm
      · rfl
  · rfl

theorem eqInt_eq (a b : Int) : eqInt a b = (a == b) := by
  rw [Bool.eq_iff_iff, beq_iff_eq]
  cases a <;> cases b <;> simp [eqInt, beq_iff] <;> omega
theorem ltInt_eq (a b : Int) : ltInt a b = decide (a < b) := by
  cases a <;> cases b <;> simp [ltInt, blt_iff, Int.negSucc_eq] <;> omega
theorem isZeroInt_eq (a : Int) : isZeroInt a = decide (a = 0) := by
  cases a <;> simp [isZeroInt, beq_iff] <;> omega

theorem eqNats_nil : eqNats [] [] = true := rfl
theorem eqNats_nil_cons (b : Nat) (m : List Nat) : eqNats [] (b :: m) = false := rfl
theorem eqNats_cons_nil (a : Nat) (l : List Nat) : eqNats (a :: l) [] = false := rfl
theorem eqNats_cons (a b : Nat) (l m : List Nat) : eqNats (a :: l) (b :: m) = (Nat.beq a b && eqNats l m) := by
  show Bool.rec (motive := fun _ => Bool) false (eqNats l m) (Nat.beq a b) = _
  cases Nat.beq a b <;> rfl
theorem eqNats_eq : ∀ (l m : List Nat), eqNats l m = (l == m)
  | [], [] => rfl
  | [], b :: m => rfl
  | a :: l, [] => rfl
  | a :: l, b :: m => by rw [eqNats_cons, eqNats_eq l m, beq_iff, List.cons_beq_cons]; rfl

theorem bytesNat_inj {a b : ByteArray} (h : bytesNat a = bytesNat b) : a = b := by
  unfold bytesNat at h
  have h1 := (List.map_inj_right (f := UInt8.toNat) (fun x y hxy => UInt8.toNat_inj.1 hxy)).1 h
  cases a; cases b
  simp at h1
  simp [h1]
theorem toList_eq (a : ByteArray) : a.toList = a.data.toList := by
  exact ByteArray.toList_eq a

theorem bytesNat_beq (a b : ByteArray) : (bytesNat a == bytesNat b) = (a.toList == b.toList) := by
  rw [Bool.eq_iff_iff, beq_iff_eq, beq_iff_eq, toList_eq, toList_eq]
  exact ⟨fun e => by rw [bytesNat_inj e], fun e => by unfold bytesNat; rw [e]⟩

theorem ltNats_eq : ∀ (x y : List UInt8), ltNats (x.map UInt8.toNat) (y.map UInt8.toNat) = Op.bytesLess x y
  | _, [] => by simp [ltNats, Op.bytesLess]
  | [], b :: y => by simp [ltNats, Op.bytesLess]
  | a :: x, b :: y => by
    have ih := ltNats_eq x y
    show (match Nat.blt a.toNat b.toNat with | true => true | false => match Nat.beq a.toNat b.toNat with | true => ltNats (x.map UInt8.toNat) (y.map UInt8.toNat) | false => false) = (decide (a < b) || (a == b && Op.bytesLess x y))
    rw [blt_iff, beq_iff, ih]
    by_cases h1 : a.toNat < b.toNat
    · have : a < b := h1
      simp [h1, this]
    · have h1' : ¬ a < b := h1
      by_cases h2 : a = b
      · subst h2; simp
      · have : a.toNat ≠ b.toNat := fun e => h2 (UInt8.toNat_inj.1 e)
        have h3 : (a == b) = false := by simpa using h2
        simp [h1, h1', h3, this]

theorem bytesNat_len (s : ByteArray) : (bytesNat s).length = s.size := by
  unfold bytesNat
  rw [List.length_map, Array.length_toList]
  rfl
theorem bytesNat_append (a b : ByteArray) : bytesNat (a ++ b) = bytesNat a ++ bytesNat b := by
  simp only [bytesNat, ByteArray.data_append, Array.toList_append, List.map_append]

section
variable {E : Env} {B : Base} {ρ ρ' : Rho} {σ : Nat → Value} {s s' : St} {w w' : World} {tm : T AV} {ev : Operand → Value} {r : Res}

theorem intBinA_ok {P : Program} {op : BinOp} {k : IntKind} {x y : Int} {a : AV} (h : intBinA op k x y = some a) :
    ∃ v, (match op with
      | .add | .sub | .mul => Op.intArith op k x y
      | .quo | .rem => Op.intDiv op k x y
      | .and | .or | .xor | .andNot => Op.intBits op k x y
      | _ => Op.intCmp op x y).run P w = .ok v w ∧ VR ρ σ a v := by
  unfold intBinA at h
  split at h
  case h_4 | h_5 =>
    rw [isZeroInt_eq] at h
    split at h
    · cases h
    · rename_i hz
      cases h
      have hz : ¬ y = 0 := by simpa using hz
      exact ⟨_, by simp [Op.intDiv, hz]; rfl, by simp [fastWrap_eq, VR]⟩
  case h_1 | h_2 | h_3 => cases h; exact ⟨_, rfl, by simp [fastWrap_eq, VR]⟩
  case h_6 | h_7 | h_8 | h_9 => cases h; exact ⟨_, rfl, rfl⟩
  case h_10 | h_11 => cases h; exact ⟨_, rfl, by simp [eqInt_eq, VR, bne]⟩
  case h_12 => cases h; exact ⟨_, rfl, by simp [ltInt_eq, VR]⟩
  case h_13 => cases h; exact ⟨_, rfl, by simp only [ltInt_eq, VR]; congr 1; rw [Bool.eq_iff_iff]; simp⟩
  case h_14 => cases h; exact ⟨_, rfl, by simp [ltInt_eq, VR]⟩
  case h_15 => cases h; exact ⟨_, rfl, by simp only [ltInt_eq, VR]; congr 1; rw [Bool.eq_iff_iff]; simp⟩
  case h_16 => cases h

theorem shiftA_ok {P : Program} {op : BinOp} {k yk : IntKind} {x y : Int} {a : AV} (h : shiftA op k x y = some a) : ∃ v, (Op.shift op k x yk y).run P w = .ok v w ∧ VR ρ σ a v := by
  unfold shiftA at h
  split at h
  · cases h
  · rename_i m
    have hm : ¬ (Int.ofNat m < 0) := by simp
    split at h
    · cases h; exact ⟨_, by simp only [Op.shift]; rw [if_neg hm]; rfl, rfl⟩
    · cases h; exact ⟨_, by simp only [Op.shift]; rw [if_neg hm]; rfl, rfl⟩
    · cases h

theorem strBinA_ok {P : Program} {op : BinOp} {x y : ByteArray} {a : AV} (h : strBinA op (bytesNat x) (bytesNat y) = some a) : ∃ v, (Op.stringOp op x y).run P w = .ok v w ∧ VR ρ σ a v := by
  have hlt : ∀ u v : ByteArray, ltNats (bytesNat u) (bytesNat v) = Op.bytesLess u.toList v.toList := fun u v => by rw [toList_eq, toList_eq]; exact ltNats_eq _ _
  unfold strBinA at h
  split at h
  · split at h
    · rename_i hb
      cases h
      have hb := Nat.le_of_ble_eq_true hb
      rw [len_eq, len_eq, bytesNat_len, bytesNat_len] at hb
      unfold maxStr at hb
      refine ⟨.string (x ++ y), ?_, _, rfl, bytesNat_append x y⟩
      have : ¬ (((x.size + y.size : Nat) : Int) > IntKind.i64.max) := by simp [IntKind.max, IntKind.signed, IntKind.bits]; omega
      simp only [Op.stringOp, if_neg this, Sem.run_pure]
    · cases h
  all_goals first
    | (cases h; done)
    | (cases h; exact ⟨_, rfl, by simp only [VR, eqNats_eq, bytesNat_beq, hlt]⟩)
end
end Go.Eng
