/- A range over a function: the loop's caller owns blocks, the iterator keeps blocks of its own. No condition. -/
import Derived.RangeFuncNested
import Derived.RangeFuncBound
import Derived.RangeFuncCalls
import Derived.RangeFuncLeaves
import Derived.Test.YtddeekefomhbmaaGreatDoorProg
namespace Go.Proofs.YtddeekefomhbmaaGreatDoor
open Go Go.RowKit

/-- But for these blocks, and what is new, it is as it was. -/
structure Chg (X : Nat → Prop) (A B : World) : Prop where
  os : B.os = A.os
  tape : B.tape = A.tape
  output : B.output = A.output
  size : A.heap.size ≤ B.heap.size
  block : ∀ k, k < A.heap.size → ¬ X k → B.heap[k]? = A.heap[k]?
theorem Chg.refl (X : Nat → Prop) (A : World) : Chg X A A := ⟨rfl, rfl, rfl, Nat.le_refl _, fun _ _ _ => rfl⟩
theorem Chg.trans {X : Nat → Prop} {A B C : World} (h : Chg X A B) (k : Chg X B C) : Chg X A C :=
  ⟨k.os.trans h.os, k.tape.trans h.tape, k.output.trans h.output, Nat.le_trans h.size k.size, fun i hi hx => (k.block i (Nat.lt_of_lt_of_le hi h.size) hx).trans (h.block i hi hx)⟩
theorem Chg.more {X Y : Nat → Prop} {A B : World} (h : Chg X A B) (hx : ∀ k, k < A.heap.size → X k → Y k) : Chg Y A B := ⟨h.os, h.tape, h.output, h.size, fun i hi hy => h.block i hi fun hxi => hy (hx i hi hxi)⟩
theorem Chg.putObj (A : World) (l : Nat) (o : Obj) {X : Nat → Prop} (hl : X l) : Chg X A (A.putObj l o) :=
  ⟨rfl, rfl, rfl, by have := (grownBy_putObj' A l o).size; exact this, fun k _ hx => World.putObj_heap_other (fun e => hx (by rw [e]; exact hl))⟩
theorem Chg.alloc (A : World) (o : Obj) (X : Nat → Prop) : Chg X A (A.alloc o) := ⟨rfl, rfl, rfl, by simp, fun k hk _ => Below.heap_alloc A o k hk⟩
theorem Chg.of_below {A B : World} {n : Nat} (h : Below n A B) : Chg (fun k => n ≤ k) A B := ⟨h.os, h.tape, h.output, h.size, fun k _ hx => h.block k (Nat.lt_of_not_le hx)⟩
theorem Chg.below {A B : World} {X : Nat → Prop} {n : Nat} (h : Chg X A B) (hx : ∀ k, k < n → ¬ X k) (hn : n ≤ A.heap.size) : Below n A B := ⟨h.os, h.tape, h.output, h.size, fun k hk => h.block k (Nat.lt_of_lt_of_le hk hn) (hx k hk)⟩

theorem Chg.setCell (A : World) (b : Nat) (v : Value) {X : Nat → Prop} (hl : X b) : Chg X A (A.setCell ⟨b, 0, none⟩ v) :=
  ⟨rfl, rfl, rfl, (grownBy_setCell' A b v).size, fun k hk hx => (grownBy_setCell' A b v).block k hk (fun e => hx (by cases e; exact hl))⟩
/-- What a round does with the blocks that the loop's caller owns. -/
def Rnd (O O' : Nat → Prop) (A B : World) : Prop := Chg O A B ∧ ∀ k, O' k → O k ∨ A.heap.size ≤ k
theorem Rnd.refl (O : Nat → Prop) (A : World) : Rnd O O A A := ⟨Chg.refl _ _, fun _ h => .inl h⟩

/-- It abides whatever befalls blocks from 'base' on that are not owned. -/
def StbO {β : Type} (base : Nat) (J : (Nat → Prop) → β → World → Prop) : Prop := ∀ O s A B, J O s A → Chg (fun k => base ≤ k ∧ ¬ O k) A B → J O s B

/-- An iterator: 'C' the blocks that it has captured, 'Cap' what lies in them. -/
def IterO {α : Type} (F : Fence) (n : Nat) (P : Program) (g : Nat) (lb : Array Value) (enc : α → Value) (C : Nat → Prop) (Cap : World → Prop) (S Sp : List α → Prop) (N base : Nat) : Prop :=
  ∀ (l : Nat) (J Jx : (Nat → Prop) → List α → World → Prop) (W : World) (O : Nat → Prop), Cap W → base ≤ W.heap.size → (∀ k, C k → base ≤ k ∧ ¬ O k ∧ k < W.heap.size) → (∀ k, O k → k < W.heap.size) → StbO base J → StbO base Jx →
    (∀ pre x W1 O1, J O1 pre W1 → pre.length < N → YieldAt F (n - 1) P l #[enc x] W1 fun e W' =>
      (e = .returned (.bool true) ∧ ∃ O2, J O2 (pre ++ [x]) W' ∧ Rnd O1 O2 W1 W') ∨ (e = .returned (.bool false) ∧ ∃ O2, Jx O2 (pre ++ [x]) W' ∧ Rnd O1 O2 W1 W')) →
    J O [] W →
    CallsIn F n P g (#[.func (.yield l) #[] #[]] ++ lb) W fun e W' => (∃ v, e = .returned v) ∧ ((∃ xs O2, S xs ∧ J O2 xs W') ∨ (∃ pre O2, Sp pre ∧ Jx O2 pre W'))

/-- How a round's body may be left. -/
def postO {α : Type} (I : (Nat → Prop) → List α → World → Prop) (Ix : Code → (Nat → Prop) → List α → World → Prop) (O1 : Nat → Prop) (xs : List α) (W : World) : Exit → Act → World → Prop
  | .normal, _, W' => ∃ O2, I O2 xs W' ∧ Rnd O1 O2 W W'
  | .ret, _, W' => ∃ O2, Ix .ret O2 xs W' ∧ Rnd O1 O2 W W'
  | .exit id, _, W' => ∃ O2, Ix (.exit id) O2 xs W' ∧ Rnd O1 O2 W W'
  | .goto t, _, W' => ∃ O2, Ix (.goto t) O2 xs W' ∧ Rnd O1 O2 W W'
  | .panic _, _, _ => False
  | .outgrown, _, _ => False

variable {F : Fence} {n : Nat} {P : Program}
theorem wpIn_rangeFunc_O {α : Type} {g : Operand} {ps : Array Tmp} {assign body : Code} {Q : Exit → Act → World → Prop} {a : Act} {w : World}
    (hro : F.round = none) (h1 : 1 ≤ n) {gf : Nat} {lb : Array Value} (hg : a.eval g = .func (.func gf) #[] lb) (hFg : F.fn gf) (eg : ∀ args w, (callFunc gf args).run P w = .ok (.enter gf args) w)
    {enc : α → Value} {C : Nat → Prop} {Cap : World → Prop} {S Sp : List α → Prop} {N base : Nat} (hseq : IterO F (n - 1) P gf lb enc C Cap S Sp N base) (hps : ps.size = 1)
    (hCap : ∀ W, Chg (fun _ => False) w W → Cap W) (hbase : base ≤ w.heap.size)
    (I : (Nat → Prop) → List α → World → Prop) (Ix : Code → (Nat → Prop) → List α → World → Prop) (O0 : Nat → Prop) (hO0 : ∀ k, O0 k → k < w.heap.size) (hC : ∀ k, C k → base ≤ k ∧ ¬ O0 k ∧ k < w.heap.size)
    (hI : StbO base I) (hIx : ∀ c, StbO base (Ix c)) (h0 : I O0 [] w) (a₁ : α → Act)
    (hassign : ∀ (l : Nat) (x : α) (W : World) (K : Act → World → Prop), K (a₁ x) W →
      assign.wpIn (F.inRound l) (n - 1 - 1) P (Exit.then K (fun _ _ _ => False)) { tmps := (ps.zip #[enc x]).foldl (fun t (p, v) => t.setIfInBounds p v) a.tmps, defers := [] } W)
    (hbody : ∀ (l : Nat) (pre : List α) (x : α) (W : World) (O1 : Nat → Prop), w.heap.size + 1 = l → l < W.heap.size → (∀ k, O1 k → k ≠ l ∧ k ≠ w.heap.size) → I O1 pre W → pre.length < N → body.wpIn (F.inRound l) (n - 1 - 1) P (postO I Ix O1 (pre ++ [x]) W) (a₁ x) W)
    (hdone : ∀ (D : Nat) (xs : List α) (W : World) (O : Nat → Prop), D = w.heap.size → (∀ k, O k → k ≠ D) → S xs → I O xs W → W.heap[D]? = some (.deferred (some [])) → Q .normal { a with defers := { target := .collected D, args := #[] } :: a.defers } W)
    (hstop : ∀ (D : Nat) (c : Code) (pre : List α) (W : World) (O : Nat → Prop), D = w.heap.size → (∀ k, O k → k ≠ D) → Sp pre → Ix c O pre W → W.heap[D]? = some (.deferred (some [])) → c.wpIn F n P Q { a with defers := { target := .collected D, args := #[] } :: a.defers } W) :
    (Code.rangeFunc g ps assign body).wpIn F n P Q a w := by
  refine wpIn_rangeFunc ?_
  intro fn hfn
  rw [hro]
  obtain ⟨rec, hrec⟩ : ∃ rec : LoopState → Option Code → Loop, rec = fun st pe => { state := st, pending := pe, fn, tmps := a.tmps, params := ps, assign, body, defers := w.heap.size } := ⟨_, rfl⟩
  obtain ⟨W1, hW1⟩ : ∃ W1, (w.alloc (.deferred (some []))).alloc (.loop (rec .ready none)) = W1 := ⟨_, rfl⟩
  have hL1 : W1.heap[w.heap.size + 1]? = some (.loop (rec .ready none)) := by
    rw [← hW1]; have := World.alloc_heap_new (w.alloc (.deferred (some []))) (.loop (rec .ready none)); rwa [World.size_alloc] at this
  have hK1 : W1.heap[w.heap.size]? = some (.deferred (some [])) := by
    rw [← hW1]; exact (Below.heap_alloc _ _ _ (by simp)).trans (World.alloc_heap_new w _)
  have hchg1 : ∀ X, Chg X w W1 := fun X => by rw [← hW1]; exact (Chg.alloc w _ X).trans (Chg.alloc _ _ X)
  have hI1 : I O0 [] W1 := hI _ _ _ _ h0 (hchg1 _)
  have hsz1 : W1.heap.size = w.heap.size + 2 := by rw [← hW1]; simp
  refine ⟨w.heap.size + 1, [{ target := .collected w.heap.size, args := #[] }], W1, { target := .fn (.func gf) lb, args := #[.func (.yield (w.heap.size + 1)) #[] #[]] }, W1, gf,
    #[.func (.yield (w.heap.size + 1)) #[] #[]] ++ lb, W1, ?_, ?_, ?_, ?_, fun _ => h1, ?_⟩
  · rw [← hW1, hrec]; exact run_enterLoop_outer _ _ _ _ _
  · simp only [resolve, hg]
    simp [go_sem]
  · intro f' hf'; simp [Target.leads] at hf'; subst hf'; exact hFg
  · simp [invoke, go_sem, eg]
  · -- what the loop keeps between two rounds
    have keepL : ∀ {O : Nat → Prop} {A B : World} {k : Nat} {o : Obj}, O k → A.heap[k]? = some o → Chg (fun k => base ≤ k ∧ ¬ O k) A B → B.heap[k]? = some o := fun hO ho hc =>
      (hc.block _ (Array.getElem?_eq_some_iff.1 ho).1 (fun h => h.2 hO)).trans ho
    have stb : ∀ {I' : (Nat → Prop) → List α → World → Prop} {st : Loop}, StbO base I' → StbO base (fun O pre W => ∃ O', I' O' pre W ∧ (∀ k, O k ↔ (O' k ∨ k = w.heap.size + 1 ∨ k = w.heap.size)) ∧ (∀ k, O' k → k ≠ w.heap.size + 1 ∧ k ≠ w.heap.size) ∧ W.heap[w.heap.size + 1]? = some (.loop st) ∧ W.heap[w.heap.size]? = some (.deferred (some []))) :=
      fun hI' O pre A B ⟨O', q1, q2, q3, q4, q5⟩ hc => ⟨O', hI' _ _ _ _ q1 (hc.more fun k _ h => ⟨h.1, fun hk => h.2 ((q2 k).2 (.inl hk))⟩), q2, q3, keepL ((q2 _).2 (.inr (.inl rfl))) q4 hc, keepL ((q2 _).2 (.inr (.inr rfl))) q5 hc⟩
    refine (hseq (w.heap.size + 1)
      (fun O pre W => ∃ O', I O' pre W ∧ (∀ k, O k ↔ (O' k ∨ k = w.heap.size + 1 ∨ k = w.heap.size)) ∧ (∀ k, O' k → k ≠ w.heap.size + 1 ∧ k ≠ w.heap.size) ∧ W.heap[w.heap.size + 1]? = some (.loop (rec .ready none)) ∧ W.heap[w.heap.size]? = some (.deferred (some [])))
      (fun O pre W => ∃ c, ∃ O', Ix c O' pre W ∧ (∀ k, O k ↔ (O' k ∨ k = w.heap.size + 1 ∨ k = w.heap.size)) ∧ (∀ k, O' k → k ≠ w.heap.size + 1 ∧ k ≠ w.heap.size) ∧ W.heap[w.heap.size + 1]? = some (.loop (rec .done (some c))) ∧ W.heap[w.heap.size]? = some (.deferred (some [])))
      W1 (fun k => O0 k ∨ k = w.heap.size + 1 ∨ k = w.heap.size) (hCap W1 (hchg1 _)) (by omega) (fun k hk => by
        obtain ⟨c1, c2, c3⟩ := hC k hk
        exact ⟨c1, fun h => by rcases h with h | h | h <;> first | exact c2 h | omega, by omega⟩) (fun k hk => by
        rcases hk with h | h | h
        · have := hO0 k h; omega
        · omega
        · omega) (stb hI) (fun O pre A B ⟨c, h⟩ hc => ⟨c, stb (hIx c) O pre A B h hc⟩) ?_
      ⟨O0, hI1, fun _ => Iff.rfl, fun k hk => by have := hO0 k hk; omega, hL1, hK1⟩).mono ?_
    · -- one round
      rintro pre x W O1 ⟨O', hi, ho1, ho2, hl, hk⟩ hlen
      have hlt : w.heap.size + 1 < W.heap.size := (Array.getElem?_eq_some_iff.1 hl).1
      have hy := run_yield (P := P) (args := #[enc x]) hl (by rw [hrec]; simp [hps])
      rw [hrec] at hy
      refine ⟨fn, _, assign, body, hy, roundIn_of_wpIn hfn (hassign _ x W _ ?_)⟩
      clear hy
      refine ⟨_, run_beginRound hl (by rw [hrec]), ?_⟩
      have hl2 : (W.putObj (w.heap.size + 1) (.loop { rec .ready none with state := .busy })).heap[w.heap.size + 1]? = some (.loop { rec .ready none with state := .busy }) := World.putObj_heap_same hlt
      have hk2 : (W.putObj (w.heap.size + 1) (.loop { rec .ready none with state := .busy })).heap[w.heap.size]? = some (.deferred (some [])) := (World.putObj_heap_other (by omega)).trans hk
      have hsz : (W.putObj (w.heap.size + 1) (.loop { rec .ready none with state := .busy })).heap.size = W.heap.size := World.putObj_size
      have hnl : ¬ O' (w.heap.size + 1) := fun h => (ho2 _ h).1 rfl
      refine wpIn_mono (hbody _ pre x _ O' rfl (by rw [hsz]; exact hlt) ho2 (hI _ _ _ _ hi (Chg.putObj W _ _ ⟨by omega, hnl⟩)) hlen) ?_
      have fin : ∀ (jump : Option Code) (W3 : World) (O2 : Nat → Prop), Rnd O' O2 (W.putObj (w.heap.size + 1) (.loop { rec .ready none with state := .busy })) W3 →
          (Instr.endRound (w.heap.size + 1) jump).run P W3 = .ok (.bool jump.isNone) (W3.putObj (w.heap.size + 1) (.loop (rec (if jump.isNone then .ready else .done) jump))) ∧
          (∀ k, O2 k → k ≠ w.heap.size + 1 ∧ k ≠ w.heap.size) ∧
          Chg (fun k => base ≤ k ∧ ¬ O2 k) W3 (W3.putObj (w.heap.size + 1) (.loop (rec (if jump.isNone then .ready else .done) jump))) ∧
          (W3.putObj (w.heap.size + 1) (.loop (rec (if jump.isNone then .ready else .done) jump))).heap[w.heap.size + 1]? = some (.loop (rec (if jump.isNone then .ready else .done) jump)) ∧
          (W3.putObj (w.heap.size + 1) (.loop (rec (if jump.isNone then .ready else .done) jump))).heap[w.heap.size]? = some (.deferred (some [])) ∧
          Rnd O1 (fun k => O2 k ∨ k = w.heap.size + 1 ∨ k = w.heap.size) W (W3.putObj (w.heap.size + 1) (.loop (rec (if jump.isNone then .ready else .done) jump))) := fun jump W3 O2 hr3 => by
        have hl3 : W3.heap[w.heap.size + 1]? = some (.loop { rec .ready none with state := .busy }) := (hr3.1.block _ (by rw [hsz]; exact hlt) hnl).trans hl2
        have hk3 : W3.heap[w.heap.size]? = some (.deferred (some [])) := (hr3.1.block _ (by rw [hsz]; omega) (fun h => (ho2 _ h).2 rfl)).trans hk2
        have hno2 : ∀ k, O2 k → k ≠ w.heap.size + 1 ∧ k ≠ w.heap.size := fun k h => by
          rcases hr3.2 k h with h1 | h1
          · exact ho2 k h1
          · rw [hsz] at h1; omega
        have hrun := run_endRound (P := P) jump hl3
        refine ⟨by rw [hrec] at hrun ⊢; exact hrun, hno2, Chg.putObj W3 _ _ ⟨by omega, fun h => (hno2 _ h).1 rfl⟩, World.putObj_heap_same (Array.getElem?_eq_some_iff.1 hl3).1, (World.putObj_heap_other (by omega)).trans hk3, ?_, ?_⟩
        · have e1 : Chg O1 W (W.putObj (w.heap.size + 1) (.loop { rec .ready none with state := .busy })) := Chg.putObj W _ _ ((ho1 _).2 (.inr (.inl rfl)))
          have e2 : Chg O1 (W.putObj (w.heap.size + 1) (.loop { rec .ready none with state := .busy })) W3 := hr3.1.more fun k _ h => (ho1 k).2 (.inl h)
          exact (e1.trans e2).trans (Chg.putObj W3 _ _ ((ho1 _).2 (.inr (.inl rfl))))
        · intro k hk'
          rcases hk' with h | h | h
          · have h1 := hr3.2 k h
            rw [hsz] at h1
            exact h1.imp (fun h => (ho1 k).2 (.inl h)) id
          · exact .inl ((ho1 k).2 (.inr (.inl h)))
          · exact .inl ((ho1 k).2 (.inr (.inr h)))
      rintro e a3 W3 hp
      cases e with
      | normal =>
        obtain ⟨O2, hi3, hr3⟩ := hp
        obtain ⟨f1, f2, f3, f4, f5, f6⟩ := fin none W3 O2 hr3
        exact ⟨_, _, f1, .inl ⟨rfl, _, ⟨O2, hI _ _ _ _ hi3 f3, fun _ => Iff.rfl, f2, f4, f5⟩, f6⟩⟩
      | ret =>
        obtain ⟨O2, hi3, hr3⟩ := hp
        obtain ⟨f1, f2, f3, f4, f5, f6⟩ := fin (some .ret) W3 O2 hr3
        exact ⟨_, _, f1, .inr ⟨rfl, _, ⟨.ret, O2, hIx _ _ _ _ _ hi3 f3, fun _ => Iff.rfl, f2, f4, f5⟩, f6⟩⟩
      | exit id =>
        obtain ⟨O2, hi3, hr3⟩ := hp
        obtain ⟨f1, f2, f3, f4, f5, f6⟩ := fin (some (.exit id)) W3 O2 hr3
        exact ⟨_, _, f1, .inr ⟨rfl, _, ⟨.exit id, O2, hIx _ _ _ _ _ hi3 f3, fun _ => Iff.rfl, f2, f4, f5⟩, f6⟩⟩
      | goto t =>
        obtain ⟨O2, hi3, hr3⟩ := hp
        obtain ⟨f1, f2, f3, f4, f5, f6⟩ := fin (some (.goto t)) W3 O2 hr3
        exact ⟨_, _, f1, .inr ⟨rfl, _, ⟨.goto t, O2, hIx _ _ _ _ _ hi3 f3, fun _ => Iff.rfl, f2, f4, f5⟩, f6⟩⟩
      | panic ch => exact hp.elim
      | outgrown => exact hp.elim
    · -- behind the iterator
      rintro e W2 ⟨⟨v, rfl⟩, (⟨xs, O, hS, O', hi, ho1, ho2, hl, hk⟩ | ⟨pre, O, hSp, c, O', hi, ho1, ho2, hl, hk⟩)⟩
      · exact ⟨none, _, by have := run_endLoop (P := P) hl (by rw [hrec]; simp); rw [hrec] at this; exact this, hdone _ xs _ O' rfl (fun k h => (ho2 k h).2) hS (hI _ _ _ _ hi (Chg.putObj _ _ _ ⟨by omega, fun h => (ho2 _ h).1 rfl⟩)) ((World.putObj_heap_other (by omega)).trans hk)⟩
      · exact ⟨some c, _, by have := run_endLoop (P := P) hl (by rw [hrec]; simp); rw [hrec] at this; exact this, hstop _ c pre _ O' rfl (fun k h => (ho2 k h).2) hSp (hIx c _ _ _ _ hi (Chg.putObj _ _ _ ⟨by omega, fun h => (ho2 _ h).1 rfl⟩)) ((World.putObj_heap_other (by omega)).trans hk)⟩
end Go.Proofs.YtddeekefomhbmaaGreatDoor
