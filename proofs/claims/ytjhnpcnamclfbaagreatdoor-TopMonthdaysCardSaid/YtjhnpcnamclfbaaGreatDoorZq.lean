/- A preview: what it hands back. No condition. -/
import Derived.Test.YtjhnpcnamclfbaaGreatDoorZp
import Derived.Test.YtjhnpcnamclfbaaGreatDoorWb
import Derived.Maps.AppendAt
import Derived.Maps.OwnIn
namespace Go.Proofs.YtjhnpcnamclfbaaGreatDoor
open Go Go.Eng Go.RowKit Go.Shelf Go.Maps
attribute [local go_sem] Oper.semAt_some

/-- What a preview's loop holds. -/
structure PvM (b : Nat) (ask : Array Value) (W : World) (u : Value) (out : List Nat) (n spent : Nat) (sh : Bool) : Prop where
  hask : W.heap[b]? = some (.cells ask 133)
  hout : Boxed W (b + 1) 78 u
  hrow : W.ownsRow b 26 1 u out.length (out.map dayV)
  hsh : Boxed W (b + 2) 4 (.bool sh)
  hn : Boxed W (b + 3) 3 (.int .i64 (n : Int))
  hspent : Boxed W (b + 4) 3 (.int .i64 (spent : Int))
def Ow (b : Nat) (u : Value) (k : Nat) : Prop := (b ≤ k ∧ k ≤ b + 4) ∨ u.ownBlock = some k
theorem boxKeep {X : Nat → Prop} {A B : World} {b : Nat} {t : TypeId} {v : Value} (h : Boxed A b t v) (hc : Chg X A B) (hx : ¬ X b) : Boxed B b t v := (hc.block b h.lt hx).trans h
theorem rowKeep {X : Nat → Prop} {A B : World} {base n : Nat} {e : TypeId} {v : Value} {xs : List Value} (h : A.ownsRow base e 1 v n xs) (hc : Chg X A B) (hx : ∀ g, v.ownBlock = some g → ¬ X g) : B.ownsRow base e 1 v n xs := by
  obtain ⟨h1, h2⟩ := h
  refine ⟨h1, ?_⟩
  rcases h2 with h2 | ⟨g, cap, cur, rfl, q1, q2, q3⟩
  · exact .inl h2
  · exact .inr ⟨g, cap, cur, rfl, q1, (hc.block g (Array.getElem?_eq_some_iff.1 q2).1 (hx g rfl)).trans q2, q3⟩
theorem PvM.keep {X : Nat → Prop} {A B : World} {b : Nat} {ask : Array Value} {u : Value} {out : List Nat} {n spent : Nat} {sh : Bool} (h : PvM b ask A u out n spent sh) (hc : Chg X A B) (hx : ∀ k, Ow b u k → ¬ X k) : PvM b ask B u out n spent sh :=
  ⟨(hc.block b (Array.getElem?_eq_some_iff.1 h.hask).1 (hx b (.inl ⟨by omega, by omega⟩))).trans h.hask, boxKeep h.hout hc (hx _ (.inl ⟨by omega, by omega⟩)), rowKeep h.hrow hc fun g hg => hx g (.inr hg), boxKeep h.hsh hc (hx _ (.inl ⟨by omega, by omega⟩)), boxKeep h.hn hc (hx _ (.inl ⟨by omega, by omega⟩)), boxKeep h.hspent hc (hx _ (.inl ⟨by omega, by omega⟩))⟩
theorem PvM.lt {A : World} {b : Nat} {ask : Array Value} {u : Value} {out : List Nat} {n spent : Nat} {sh : Bool} (h : PvM b ask A u out n spent sh) {k : Nat} (hk : Ow b u k) : b ≤ k ∧ k < A.heap.size := by
  rcases hk with ⟨h1, h2⟩ | hg
  · exact ⟨h1, by have := h.hspent.lt; omega⟩
  · exact h.hrow.lt k hg
theorem PvM.apart {A : World} {b : Nat} {ask : Array Value} {u : Value} {out : List Nat} {n spent : Nat} {sh : Bool} (h : PvM b ask A u out n spent sh) {g : Nat} (hg : u.ownBlock = some g) : ¬ (b ≤ g ∧ g ≤ b + 4) := by
  rintro ⟨h1, h2⟩
  obtain ⟨_, h3 | ⟨g', cap, cur, rfl, q1, q2, q3⟩⟩ := h.hrow
  · rw [h3.1] at hg; cases hg
  · have : g' = g := by simpa [Value.ownBlock] using hg
    subst this
    have k0 := h.hask
    have k1 := h.hout
    have k2 := h.hsh
    have k3 := h.hn
    have k4 := h.hspent
    unfold Boxed at k1 k2 k3 k4
    have cases5 : g' = b ∨ g' = b + 1 ∨ g' = b + 2 ∨ g' = b + 3 ∨ g' = b + 4 := by omega
    rcases cases5 with rfl | rfl | rfl | rfl | rfl
    · rw [q2] at k0; simp at k0
    · rw [q2] at k1; simp at k1
    · rw [q2] at k2; simp at k2
    · rw [q2] at k3; simp at k3
    · rw [q2] at k4; simp at k4
section
variable {A : World} {b : Nat} {ask : Array Value} {u : Value} {out : List Nat} {n spent : Nat} {sh : Bool}
theorem PvM.rowSet (h : PvM b ask A u out n spent sh) {i : Nat} (h1 : 1 ≤ i) (h4 : i ≤ 4) (v : Value) : (A.setCell ⟨b + i, 0, none⟩ v).ownsRow b 26 1 u out.length (out.map dayV) :=
  rowKeep h.hrow (chgSet A ⟨b + i, 0, none⟩ v (X := fun k => k = b + i) rfl) fun g hg e => h.apart hg ⟨by omega, by omega⟩
theorem PvM.setOut (h : PvM b ask A u out n spent sh) : PvM b ask (A.setCell ⟨b + 1, 0, none⟩ u) u out n spent sh :=
  ⟨(setCell_ne (by show b + 1 ≠ b; omega)).trans h.hask, h.hout.set _, h.rowSet (by omega) (by omega) _, h.hsh.other (by omega) _, h.hn.other (by omega) _, h.hspent.other (by omega) _⟩
theorem PvM.setSh (h : PvM b ask A u out n spent sh) (s : Bool) : PvM b ask (A.setCell ⟨b + 2, 0, none⟩ (.bool s)) u out n spent s :=
  ⟨(setCell_ne (by show b + 2 ≠ b; omega)).trans h.hask, h.hout.other (by omega) _, h.rowSet (by omega) (by omega) _, h.hsh.set _, h.hn.other (by omega) _, h.hspent.other (by omega) _⟩
theorem PvM.setN (h : PvM b ask A u out n spent sh) (m : Nat) : PvM b ask (A.setCell ⟨b + 3, 0, none⟩ (.int .i64 (m : Int))) u out m spent sh :=
  ⟨(setCell_ne (by show b + 3 ≠ b; omega)).trans h.hask, h.hout.other (by omega) _, h.rowSet (by omega) (by omega) _, h.hsh.other (by omega) _, h.hn.set _, h.hspent.other (by omega) _⟩
theorem PvM.setSpent (h : PvM b ask A u out n spent sh) (m : Nat) : PvM b ask (A.setCell ⟨b + 4, 0, none⟩ (.int .i64 (m : Int))) u out n m sh :=
  ⟨(setCell_ne (by show b + 4 ≠ b; omega)).trans h.hask, h.hout.other (by omega) _, h.rowSet (by omega) (by omega) _, h.hsh.other (by omega) _, h.hn.other (by omega) _, h.hspent.set _⟩
theorem PvM.fin (h : PvM b ask A u out n spent sh) (s : Bool) : PvM b ask ((A.setCell ⟨b + 1, 0, none⟩ u).setCell ⟨b + 2, 0, none⟩ (.bool s)) u out n spent s := h.setOut.setSh s
theorem chgFin (A : World) (b : Nat) (u x y : Value) : Chg (Ow b u) A ((A.setCell ⟨b + 1, 0, none⟩ x).setCell ⟨b + 2, 0, none⟩ y) :=
  (chgSet A ⟨b + 1, 0, none⟩ x (X := Ow b u) (.inl ⟨by show b ≤ b + 1; omega, by show b + 1 ≤ b + 4; omega⟩)).trans (chgSet _ ⟨b + 2, 0, none⟩ y (X := Ow b u) (.inl ⟨by show b ≤ b + 2; omega, by show b + 2 ≤ b + 4; omega⟩))
end
/-- Owned blocks, later: as before, or new. -/
def Later (b : Nat) (u u' : Value) (A : World) : Prop := ∀ j, Ow b u' j → Ow b u j ∨ A.heap.size ≤ j
theorem Later.refl (b : Nat) (u : Value) (A : World) : Later b u u A := fun _ h => .inl h
theorem chgVia {b : Nat} {u u' : Value} {A B C : World} (h : Chg (Ow b u) A B) (hl : Later b u u' A) (k : Chg (Ow b u') B C) : Chg (Ow b u) A C :=
  ⟨k.os.trans h.os, k.tape.trans h.tape, k.output.trans h.output, Nat.le_trans h.size k.size, fun i hi hx => (k.block i (Nat.lt_of_lt_of_le hi h.size) fun hu => by rcases hl i hu with q | q <;> first | exact hx q | omega).trans (h.block i hi hx)⟩
theorem PvM.append {A w8 : World} {b : Nat} {ask : Array Value} {u v' : Value} {out : List Nat} {n spent : Nat} {sh : Bool} {tmp : Obj} {y : Nat} (h : PvM b ask A u out n spent sh) (hgrow : (A.alloc tmp).grownBy w8 u.ownBlock)
    (hown : w8.ownsRow b 26 1 v' (out.length + 1) (out.map dayV ++ [dayV y])) (hat : v'.ownBlock = u.ownBlock ∨ v'.ownBlock = some (A.alloc tmp).heap.size) :
    w8.heap[b]? = some (.cells ask 133) ∧ Boxed w8 (b + 1) 78 u ∧ Boxed w8 (b + 2) 4 (.bool sh) ∧ Boxed w8 (b + 3) 3 (.int .i64 (n : Int)) ∧ Boxed w8 (b + 4) 3 (.int .i64 (spent : Int)) ∧
      PvM b ask (w8.setCell ⟨b + 1, 0, none⟩ v') v' (out ++ [y]) n spent sh ∧ Chg (Ow b u) A (w8.setCell ⟨b + 1, 0, none⟩ v') ∧ Later b u v' A := by
  have hX : Chg (fun k => u.ownBlock = some k) A w8 := (Chg.alloc A tmp _).trans ⟨hgrow.os, hgrow.tape, hgrow.output, hgrow.size, fun k hk hn => hgrow.block k hk fun e => hn e.symm⟩
  have nb : ∀ i, i ≤ 4 → ¬ u.ownBlock = some (b + i) := fun i hi e => h.apart e ⟨by omega, by omega⟩
  have g0 : w8.heap[b]? = some (.cells ask 133) := (hX.block b (Array.getElem?_eq_some_iff.1 h.hask).1 (nb 0 (by omega))).trans h.hask
  have g1 := boxKeep h.hout hX (nb 1 (by omega))
  have g2 := boxKeep h.hsh hX (nb 2 (by omega))
  have g3 := boxKeep h.hn hX (nb 3 (by omega))
  have g4 := boxKeep h.hspent hX (nb 4 (by omega))
  have hap : ∀ g, v'.ownBlock = some g → ¬ (b ≤ g ∧ g ≤ b + 4) := fun g hg => by
    rcases hat with e | e
    · exact h.apart (e ▸ hg)
    · rw [e] at hg
      have : (A.alloc tmp).heap.size = g := by simpa using hg
      rw [World.size_alloc] at this
      have := h.hspent.lt
      omega
  refine ⟨g0, g1, g2, g3, g4, ⟨(setCell_ne (by show b + 1 ≠ b; omega)).trans g0, g1.set _, ?_, g2.other (by omega) _, g3.other (by omega) _, g4.other (by omega) _⟩, ?_, ?_⟩
  · have := rowKeep hown (chgSet w8 ⟨b + 1, 0, none⟩ v' (X := fun k => k = b + 1) rfl) fun g hg e => hap g hg ⟨by omega, by omega⟩
    rw [List.length_append, List.map_append]
    exact this
  · exact (hX.more fun k _ e => .inr e).trans (chgSet w8 ⟨b + 1, 0, none⟩ v' (.inl ⟨by show b ≤ b + 1; omega, by show b + 1 ≤ b + 4; omega⟩))
  · rintro j (hj | hj)
    · exact .inl (.inl hj)
    · rcases hat with e | e
      · exact .inl (.inr (e ▸ hj))
      · rw [e] at hj
        have : (A.alloc tmp).heap.size = j := by simpa using hj
        rw [World.size_alloc] at this
        exact .inr (by omega)
theorem daysN_inr {a : AskN} : ∀ {l m : List Nat} {st : List Nat × Nat} {o : List Nat}, daysN a l st = .inr o → daysN a (l ++ m) st = .inr o
  | [], m, st, o, h => by cases h
  | d :: l, m, st, o, h => by
    have h : (match dayN1 a st d with | .inl st' => daysN a l st' | .inr o => .inr o) = .inr o := h
    show (match dayN1 a st d with | .inl st' => daysN a (l ++ m) st' | .inr o => .inr o) = .inr o
    cases hd : dayN1 a st d with
    | inr o' => rw [hd] at h; exact h
    | inl st2 => rw [hd] at h; exact daysN_inr h
theorem Later.trans {b : Nat} {u u' u'' : Value} {A B : World} (h : Later b u u' A) (k : Later b u' u'' B) (hs : A.heap.size ≤ B.heap.size) : Later b u u'' A := fun j hj => by
  rcases k j hj with q | q
  · exact h j q
  · exact .inr (by omega)
theorem dayN1_inl {a : AskN} {st st' : List Nat × Nat} {d : Nat} (h : dayN1 a st d = .inl st') (hl : st.1.length ≤ a.limit) : st'.1.length ≤ a.limit ∧ st'.2 ≤ st.2 + 1 := by
  unfold dayN1 at h
  split at h
  · cases h; exact ⟨hl, by omega⟩
  split at h
  · cases h
  rename_i h1 h2
  have hne : st.1.length ≠ a.limit := fun e => h2 (.inr (.inr e))
  split at h
  · cases h
  cases h
  refine ⟨?_, Nat.le_refl _⟩
  simp only
  split
  · rw [List.length_append, List.length_singleton]; omega
  · exact hl
theorem daysN_inl {a : AskN} : ∀ {l : List Nat} {st st' : List Nat × Nat}, daysN a l st = .inl st' → st.1.length ≤ a.limit → st'.1.length ≤ a.limit ∧ st'.2 ≤ st.2 + l.length
  | [], st, st', h, hl => by cases h; exact ⟨hl, Nat.le_refl _⟩
  | d :: l, st, st', h, hl => by
    have h : (match dayN1 a st d with | .inl st' => daysN a l st' | .inr o => .inr o) = .inl st' := h
    cases hd : dayN1 a st d with
    | inr o => rw [hd] at h; cases h
    | inl st2 =>
      rw [hd] at h
      have h1 := dayN1_inl hd hl
      have h2 := daysN_inl (show daysN a l st2 = .inl st' from h) h1.1
      exact ⟨h2.1, by rw [List.length_cons]; omega⟩
theorem inN_len (r : RuleD) (s : Nat) (p : SpT) : (inN r s p.1).length ≤ lastN := by
  refine Nat.le_trans (in_sub r s p.1).length_le ?_
  show ((List.range' p.1.1 (p.1.2 + 1 - p.1.1)).filter _).length ≤ lastN
  refine Nat.le_trans (List.length_filter_le _ _) ?_
  rw [List.length_range']
  have := p.2
  omega
theorem spanN_inl {a : AskN} {st st' : (List Nat × Nat) × Nat} {s : SpT} (h : spanN a st s = .inl st') (hl : st.1.1.length ≤ a.limit) : st'.1.1.length ≤ a.limit ∧ st'.1.2 ≤ st.1.2 + lastN ∧ st'.2 = st.2 + 1 := by
  unfold spanN at h
  split at h
  · cases h
  split at h
  · cases h
  cases hd : daysN a (inN a.r a.start s.1) st.1 with
  | inr o => rw [hd] at h; cases h
  | inl st2 =>
    rw [hd] at h
    simp only at h
    split at h
    · cases h
    · cases h
      have h1 := daysN_inl hd hl
      have h2 := inN_len a.r a.start s
      exact ⟨h1.1, by simp only; omega, rfl⟩
theorem daysN_out {a : AskN} : ∀ {l : List Nat} {st : List Nat × Nat} {o : List Nat}, daysN a l st = .inr o → st.1.length ≤ a.limit → o.length ≤ a.limit
  | [], st, o, h, _ => by cases h
  | d :: l, st, o, h, hl => by
    have h : (match dayN1 a st d with | .inl st' => daysN a l st' | .inr o => .inr o) = .inr o := h
    cases hd : dayN1 a st d with
    | inl st2 => rw [hd] at h; exact daysN_out h (dayN1_inl hd hl).1
    | inr o' =>
      rw [hd] at h
      cases h
      unfold dayN1 at hd
      split at hd
      · cases hd
      split at hd
      · cases hd; exact hl
      rename_i h1 h2
      have hne : st.1.length ≠ a.limit := fun e => h2 (.inr (.inr e))
      split at hd
      · cases hd
        split
        · rw [List.length_append, List.length_singleton]; omega
        · exact hl
      · cases hd
theorem spanN_inr {a : AskN} {st : (List Nat × Nat) × Nat} {s : SpT} {o : List Nat × Bool} (h : spanN a st s = .inr o) (hl : st.1.1.length ≤ a.limit) : o.1.length ≤ a.limit := by
  unfold spanN at h
  split at h
  · cases h; exact hl
  split at h
  · cases h; exact hl
  cases hd : daysN a (inN a.r a.start s.1) st.1 with
  | inr o' => rw [hd] at h; cases h; exact daysN_out hd hl
  | inl st2 =>
    rw [hd] at h
    simp only at h
    split at h
    · cases h; exact (daysN_inl hd hl).1
    · cases h
theorem spansN_inl {a : AskN} : ∀ {l : List SpT} {st st'}, spansN a l st = .inl st' → st.1.1.length ≤ a.limit → st'.1.1.length ≤ a.limit ∧ st'.1.2 ≤ st.1.2 + lastN * l.length ∧ st'.2 = st.2 + l.length
  | [], st, st', h, hl => by cases h; exact ⟨hl, by simp, rfl⟩
  | s :: l, st, st', h, hl => by
    have h : (match spanN a st s with | .inl st' => spansN a l st' | .inr o => .inr o) = .inl st' := h
    cases hs : spanN a st s with
    | inr o => rw [hs] at h; cases h
    | inl st2 =>
      rw [hs] at h
      have h1 := spanN_inl hs hl
      have h2 := spansN_inl (show spansN a l st2 = .inl st' from h) h1.1
      refine ⟨h2.1, ?_, by rw [h2.2.2, h1.2.2, List.length_cons]; omega⟩
      rw [List.length_cons, Nat.mul_succ]
      omega
def PvI (a : AskN) (b : Nat) (ask : Array Value) (w : World) (O1 : Nat → Prop) (pre : List SpT) (W' : World) : Prop := ∃ (u : Value) (st : (List Nat × Nat) × Nat), spansN a pre (([], 0), 0) = .inl st ∧ PvM b ask W' u st.1.1 st.1.2 st.2 false ∧ (∀ j, O1 j ↔ Ow b u j) ∧ Below w.heap.size w W'
def PvX (a : AskN) (b : Nat) (ask : Array Value) (w : World) (c : Code) (O1 : Nat → Prop) (pre : List SpT) (W' : World) : Prop := c = .ret ∧ ∃ (u : Value) (o : List Nat × Bool) (n spent : Nat), spansN a pre (([], 0), 0) = .inr o ∧ PvM b ask W' u o.1 n spent o.2 ∧ (∀ j, O1 j ↔ Ow b u j) ∧ Below w.heap.size w W'
theorem own_form {w : World} {base : Nat} {e : TypeId} {v : Value} {n : Nat} {xs : List Value} (h : w.ownsRow base e 1 v n xs) : ∃ a c, v = .slice a n c := by
  rcases own_cellZ h with ⟨e, h0, _⟩ | ⟨g, cap, e, _⟩
  · exact ⟨none, 0, by rw [e, h0]⟩
  · exact ⟨_, _, e⟩
theorem infoDay2 : (Tryz.prog.info? 26).map (fun i => (i.zero, i.size, i.bytes)) = some (some (.int .i64 0), 1, 8) := by kernel_rfl

set_option maxRecDepth 100000 in
set_option maxHeartbeats 8000000 in
theorem preview_calls (a : AskN) (hr : RuleOk a.r) (k : Nat) (hk1 : 1 ≤ k) (hk2 : k ≤ 100000) (s1 : 1 ≤ a.start) (s2 : a.start ≤ lastN) (hto : a.upto ≤ 4000000) (hli : a.limit ≤ 1000000) (htil : 0 ≤ a.r.til ∧ a.r.til ≤ 4000000) (hcnt : 0 ≤ a.r.count ∧ a.r.count ≤ 1000000)
    (sm sd sw sp : Value) {w : World} (hw : Vars gl w) (hv : RuleV w (.agg #[.int .i64 a.r.freq, .int .i64 (k : Int), .int .i64 a.r.count, .int .i64 a.r.til, sm, sd, sw, sp]) a.r) :
    Calls Tryz.prog 80 #[.agg #[.int .i64 a.r.freq, .int .i64 (k : Int), .int .i64 a.r.count, .int .i64 a.r.til, sm, sd, sw, sp, .int .i64 (a.start : Int), .int .i64 (a.from_ : Int), .int .i64 (a.upto : Int), .int .i64 (a.limit : Int), .int .i64 (a.budget : Int)]] w
      fun e w' => ∃ u, e = .returned (.tuple #[u, .bool (pvN a k (spT a.r.freq a.start s1 s2)).2]) ∧ w'.ownsRow w.heap.size 26 1 u (pvN a k (spT a.r.freq a.start s1 s2)).1.length ((pvN a k (spT a.r.freq a.start s1 s2)).1.map dayV) ∧ Below w.heap.size w w' := by
  have tS := Tryz.underlying209; have aS := Tryz.isAgg209; have zS := Tryz.sizeOf209; have uS := run_underlying Tryz.underlying209
  have tR := Tryz.underlying124; have aR := Tryz.isAgg124; have zR := Tryz.sizeOf124; have uR := run_underlying Tryz.underlying124
  have tA := Tryz.underlying133; have aA := Tryz.isAgg133; have zA := Tryz.sizeOf133; have uA := run_underlying Tryz.underlying133
  obtain ⟨i0, hi, hz0, hz1, hz2⟩ := info_parts infoDay2
  refine (callsIn_wide (n := 10)).1 ?_
  refine callsIn_of_wp_marks Tryz.func80 rfl trivial ?_ rfl
  simp only [Tryz.ntmps80, List.size_toArray, List.length_cons, List.length_nil, Nat.reduceAdd, Nat.reduceSub, Array.replicate_succ, Array.replicate_zero, List.push_toArray, List.append_toArray, List.nil_append, List.cons_append]
  gi_wp2_with (refine ⟨trivial, ?_⟩; refine (callsIn_wide.2 (periods_calls _ _ _)).mono ?_; rintro e w' ⟨rfl, rfl⟩)
  simp only [Nat.add_assoc, Nat.reduceAdd]
  obtain ⟨ask, hask⟩ : ∃ ask : Array Value, ask = #[.int .i64 a.r.freq, .int .i64 (k : Int), .int .i64 a.r.count, .int .i64 a.r.til, sm, sd, sw, sp, .int .i64 (a.start : Int), .int .i64 (a.from_ : Int), .int .i64 (a.upto : Int), .int .i64 (a.limit : Int), .int .i64 (a.budget : Int)] := ⟨_, rfl⟩
  obtain ⟨rc, hrc⟩ : ∃ rc : Array Value, rc = #[.int .i64 a.r.freq, .int .i64 (k : Int), .int .i64 a.r.count, .int .i64 a.r.til, sm, sd, sw, sp] := ⟨_, rfl⟩
  obtain ⟨b, hbd⟩ : ∃ b, b = w.heap.size := ⟨_, rfl⟩
  have hr0 : rc[0]? = some (.int .i64 a.r.freq) := by rw [hrc]; rfl
  have hr1 : rc[1]? = some (.int .i64 (k : Int)) := by rw [hrc]; rfl
  obtain ⟨s0, hs0⟩ : ∃ s0, s0 = spT a.r.freq a.start s1 s2 := ⟨_, rfl⟩
  obtain ⟨W4, hW4⟩ : ∃ W4, (((((((w.alloc (.cells ask 133)).alloc (.cells #[.slice none 0 0] 78)).alloc (.cells #[.bool false] 4)).alloc (.cells #[.int .i64 0] 3)).alloc (.cells #[.int .i64 0] 3)).alloc (.cells rc 124)).alloc (.cells #[.int .i64 (a.start : Int)] 26)) = W4 := ⟨_, rfl⟩
  have nw : ∀ (A : World) (o : Obj) (m : Nat), m = A.heap.size → (A.alloc o).heap[m]? = some o := fun A o m h => by rw [h]; exact World.alloc_heap_new A o
  have kp : ∀ (A : World) (o o' : Obj) (m : Nat), A.heap[m]? = some o → (A.alloc o').heap[m]? = some o := fun A o o' m h => (Below.heap_alloc _ _ _ (Array.getElem?_eq_some_iff.1 h).1).trans h
  have q0 : PvM b ask W4 (.slice none 0 0) [] 0 0 false := by
    rw [← hW4, hbd]
    refine ⟨kp _ _ _ _ (kp _ _ _ _ (kp _ _ _ _ (kp _ _ _ _ (kp _ _ _ _ (kp _ _ _ _ (nw _ _ _ rfl)))))), kp _ _ _ _ (kp _ _ _ _ (kp _ _ _ _ (kp _ _ _ _ (kp _ _ _ _ (nw _ _ _ (by simp)))))), World.ownsRow_nil _ _ _ _, kp _ _ _ _ (kp _ _ _ _ (kp _ _ _ _ (kp _ _ _ _ (nw _ _ _ (by simp))))), kp _ _ _ _ (kp _ _ _ _ (kp _ _ _ _ (nw _ _ _ (by simp)))), kp _ _ _ _ (kp _ _ _ _ (nw _ _ _ (by simp)))⟩
  have q1 : W4.heap[b + 5]? = some (.cells rc 124) := by rw [← hW4, hbd]; exact kp _ _ _ _ (nw _ _ _ (by simp))
  have q2 : W4.heap[b + 6]? = some (.cells #[.int .i64 (a.start : Int)] 26) := by rw [← hW4, hbd]; exact nw _ _ _ (by simp)
  have hsz : W4.heap.size = b + 7 := by rw [← hW4, hbd]; simp
  have hB4 : Below w.heap.size w W4 := by
    rw [← hW4]
    exact (((((((Below.refl _ w).alloc (Nat.le_refl _) _).alloc (by simp) _).alloc (by simp; omega) _).alloc (by simp; omega) _).alloc (by simp; omega) _).alloc (by simp; omega) _).alloc (by simp; omega) _
  rw [← hask, ← hrc, hW4, ← hbd]
  have Hask := hidZ hask
  have Hrc := hidZ hrc
  have Hbd := hidZ hbd
  have HW4 := hidZ hW4
  have hbw : w.heap.size ≤ b := by omega
  have hbw2 : b ≤ w.heap.size := by omega
  clear hask hrc hbd hW4 nw kp
  refine wpIn_rangeFunc_B (α := SpT) rfl (by omega) (gf := 206) (lb := #[.pointer (some ⟨b + 5, 0, none⟩), .pointer (some ⟨b + 6, 0, none⟩)]) rfl trivial (enters_of Tryz.func206 (by kernel_rfl) rfl)
    (periods_iter (10 - 1) (by omega) w hw (b + 5) (b + 6) b rc a.r.freq k hk1 hk2 hr0 hr1 a.start s1 s2) rfl
    (fun W5 h5 => ⟨hB4.trans ⟨h5.os, h5.tape, h5.output, h5.size, fun j hj => h5.block j (Nat.lt_of_lt_of_le hj hB4.size) fun h => h⟩, (h5.block _ (Array.getElem?_eq_some_iff.1 q1).1 fun h => h).trans q1, (h5.block _ (Array.getElem?_eq_some_iff.1 q2).1 fun h => h).trans q2⟩) (by omega)
    (PvI a b ask w) (PvX a b ask w)
    (Ow b (.slice none 0 0)) (fun j hj => (q0.lt hj).2)
    (fun j hj => ⟨fun h => by
      have := q0.lt h
      rcases hj with rfl | rfl | hj
      · rcases h with h | h
        · omega
        · simp [Value.ownBlock] at h
      · rcases h with h | h
        · omega
        · simp [Value.ownBlock] at h
      · omega, by rcases hj with rfl | rfl | hj <;> omega⟩)
    (fun O1 pre A B ⟨u, st, j1, j2, j3, j4⟩ hc => ⟨u, st, j1, j2.keep hc fun j hj h => h.2 ((j3 j).2 hj), j3, j4.trans (hc.below (fun j hj h => by omega) j4.size)⟩)
    (fun c O1 pre A B ⟨e, u, o, n, sp, j1, j2, j3, j4⟩ hc => ⟨e, u, o, n, sp, j1, j2.keep hc fun j hj h => h.2 ((j3 j).2 hj), j3, j4.trans (hc.below (fun j hj h => by omega) j4.size)⟩)
    ⟨_, (([], 0), 0), rfl, q0, fun _ => Iff.rfl, hB4⟩
    ?A (fun x B W' => Box2 W' B 209 (.int .i64 (x.1.1 : Int)) (.int .i64 (x.1.2 : Int))) (fun x B X Y hB h hc => (hc.block B h.lt (fun e => by have : B = W4.heap.size + 1 := e; omega)).trans h) ?assign ?body ?done ?stop
  case assign =>
    intro l' x W' K hs hK
    obtain ⟨B, hBd⟩ : ∃ B, B = W'.heap.size := ⟨_, rfl⟩
    have hK' := hK B (W'.alloc (.cells #[.int .i64 (x.1.1 : Int), .int .i64 (x.1.2 : Int)] 209)) hBd (by rw [hBd]; exact Box2.new W' _ _ _) (Chg.alloc _ _ _)
    simp only [spV]
    gi_wp2
    rw [← hBd]
    exact hK'
  case body =>
    rintro l' pre x B W O1 hB hbx el hl' hno ⟨u, st, j1, j2, j3, j4⟩ hlen
    obtain ⟨b1, b2', b3'⟩ := spansN_inl j1 (Nat.zero_le _)
    have b3 : st.2 ≤ pre.length := by rw [b3']; simp
    have b2 : st.1.2 ≤ lastN * pre.length := by simpa using b2'
    clear b2' b3'
    have hl7 : lastN = 3652059 := rfl
    have kask : ∀ {V : World}, V.heap[b]? = some (.cells ask 133) → ∀ j v, ask[j]? = some v → V.cell? ⟨b, j, none⟩ = some v := fun {V} h j v hj => by simp [World.cell?, h, hj]
    have c3 := kask j2.hask 3 (.int .i64 a.r.til) (by rw [Hask.out]; rfl)
    have c10 := kask j2.hask 10 (.int .i64 (a.upto : Int)) (by rw [Hask.out]; rfl)
    have x0 := hbx.c0
    have x1 := hbx.c1
    have hx := x.2
    obtain ⟨ua, uc, hu⟩ : ∃ ua uc, u = .slice ua st.1.1.length uc := by
      rcases own_cellZ j2.hrow with ⟨e, h0, _⟩ | ⟨g, cap, e, _⟩
      · exact ⟨none, 0, by rw [e, h0]⟩
      · exact ⟨_, _, e⟩
    subst hu
    have k1 := j2.hout.cell
    have f1 := j2.hout.frozen
    have k2 := j2.hsh.cell
    have f2 := j2.hsh.frozen
    have HR := hidZ (show ∀ o (W' : World) u' n' sp', spanN a st x = .inr o → PvM b ask W' u' o.1 n' sp' o.2 → Chg (Ow b (.slice ua st.1.1.length uc)) W W' → Later b (.slice ua st.1.1.length uc) u' W → ∃ O2, PvX a b ask w .ret O2 (pre ++ [x]) W' ∧ Rnd O1 O2 W W' from fun o W' u' n' sp' h1 h2 h3 h4 =>
      ⟨Ow b u', ⟨rfl, u', o, n', sp', by rw [spansN_snoc, j1]; exact h1, h2, fun _ => Iff.rfl, j4.trans (h3.below (fun j hj h => by have := j2.lt h; omega) j4.size)⟩, h3.more fun j _ h => (j3 j).2 h, fun j h => (h4 j h).imp (fun h => (j3 j).2 h) id⟩)
    have HN := hidZ (show ∀ st' (W' : World) u', spanN a st x = .inl st' → PvM b ask W' u' st'.1.1 st'.1.2 st'.2 false → Chg (Ow b (.slice ua st.1.1.length uc)) W W' → Later b (.slice ua st.1.1.length uc) u' W → ∃ O2, PvI a b ask w O2 (pre ++ [x]) W' ∧ Rnd O1 O2 W W' from fun st' W' u' h1 h2 h3 h4 =>
      ⟨Ow b u', ⟨u', st', by rw [spansN_snoc, j1]; exact h1, h2, fun _ => Iff.rfl, j4.trans (h3.below (fun j hj h => by have := j2.lt h; omega) j4.size)⟩, h3.more fun j _ h => (j3 j).2 h, fun j h => (h4 j h).imp (fun h => (j3 j).2 h) id⟩)
    by_cases hA : a.upto < x.1.1 ∨ (0 < a.r.til ∧ a.r.til < (x.1.1 : Int))
    · have e : spanN a st x = .inr (st.1.1, false) := by unfold spanN; rw [if_pos hA]
      have He := hidZ e
      by_cases hA1 : a.upto < x.1.1
      · have i1 : (a.upto : Int) < (x.1.1 : Int) := by omega
        gi_wp2
        exact HR.out _ _ _ _ _ He.out (j2.fin false) (chgFin _ _ _ _ _) (Later.refl _ _ _)
      · have i1 : ¬ (a.upto : Int) < (x.1.1 : Int) := by omega
        obtain ⟨i2, i3⟩ := hA.resolve_left hA1
        gi_wp2
        exact HR.out _ _ _ _ _ He.out (j2.fin false) (chgFin _ _ _ _ _) (Later.refl _ _ _)
    · have i1 : ¬ (a.upto : Int) < (x.1.1 : Int) := fun h => hA (.inl (by omega))
      have hTil : (¬ 0 < a.r.til) ∨ (0 < a.r.til ∧ ¬ a.r.til < (x.1.1 : Int)) := by
        by_cases h : 0 < a.r.til
        · exact .inr ⟨h, fun h2 => hA (.inr ⟨h, h2⟩)⟩
        · exact .inl h
      have HA := hidZ hA
      have c8 := kask j2.hask 8 (.int .i64 (a.start : Int)) (by rw [Hask.out]; rfl)
      have c12 := kask j2.hask 12 (.int .i64 (a.budget : Int)) (by rw [Hask.out]; rfl)
      have k5 := j2.hspent.cell
      have f5 := j2.hspent.frozen
      clear hA
      by_cases hBu : st.2 = a.budget
      · have i5 : ((st.2 : Int) == (a.budget : Int)) = true := by rw [beq_iff_eq]; omega
        have e : spanN a st x = .inr (st.1.1, true) := by unfold spanN; rw [if_neg HA.out, if_pos hBu]
        have He := hidZ e
        clear e hBu
        rcases hTil with i2 | ⟨i2, i3⟩
        all_goals
          gi_wp2
          exact HR.out _ _ _ _ _ He.out (j2.fin true) (chgFin _ _ _ _ _) (Later.refl _ _ _)
      · have i5 : ((st.2 : Int) == (a.budget : Int)) = false := by rw [beq_eq_false_iff_ne]; omega
        have e : spanN a st x = match daysN a (inN a.r a.start x.1) st.1 with
            | .inr o => .inr (o, false)
            | .inl st' => if st'.1.length = a.limit then .inr (st'.1, false) else .inl (st', st.2 + 1) := by unfold spanN; rw [if_neg HA.out, if_neg hBu]; rfl
        have He := hidZ e
        clear e hBu
        have hst2 : (st.2 : Int) ≤ 4000000 := by omega
        have n0 : ((st.2 + 1 : Nat) : Int) = (st.2 : Int) + 1 := by omega
        have j6 := j2.setSpent (st.2 + 1)
        have hc6 : Chg (Ow b (.slice ua st.1.1.length uc)) W (W.setCell ⟨b + 4, 0, none⟩ (.int .i64 ((st.2 + 1 : Nat) : Int))) := chgSet W ⟨b + 4, 0, none⟩ _ (.inl ⟨by show b ≤ b + 4; omega, by show b + 4 ≤ b + 4; omega⟩)
        have d0 := kask j2.hask 0 (.int .i64 a.r.freq) (by rw [Hask.out]; rfl)
        have d1 := kask j2.hask 1 (.int .i64 (k : Int)) (by rw [Hask.out]; rfl)
        have d2 := kask j2.hask 2 (.int .i64 a.r.count) (by rw [Hask.out]; rfl)
        have d3 := kask j2.hask 3 (.int .i64 a.r.til) (by rw [Hask.out]; rfl)
        have d4 := kask j2.hask 4 sm (by rw [Hask.out]; rfl)
        have d5 := kask j2.hask 5 sd (by rw [Hask.out]; rfl)
        have d6 := kask j2.hask 6 sw (by rw [Hask.out]; rfl)
        have d7 := kask j2.hask 7 sp (by rw [Hask.out]; rfl)
        have d8 := kask j2.hask 8 (.int .i64 (a.start : Int)) (by rw [Hask.out]; rfl)
        have hbx6 : Box2 (W.setCell ⟨b + 4, 0, none⟩ (.int .i64 ((st.2 + 1 : Nat) : Int))) B 209 (.int .i64 (x.1.1 : Int)) (.int .i64 (x.1.2 : Int)) := (setCell_ne (by show b + 4 ≠ B; omega)).trans hbx
        have hB6 : Below w.heap.size w (W.setCell ⟨b + 4, 0, none⟩ (.int .i64 ((st.2 + 1 : Nat) : Int))) := belowSet j4 _ _ (by show w.heap.size ≤ b + 4; omega)
        have hbn : lastN * pre.length ≤ lastN * lastN := Nat.mul_le_mul_left _ (by omega)
        have hn13 : st.1.2 ≤ 13337534939481 := by
          have : lastN * lastN = 13337534939481 := rfl
          omega
        have hxs : ∀ y, y ∈ inN a.r a.start x.1 → y ≤ 3652059 := fun y hy => by
          have := (mem_fromTo.1 ((in_sub a.r a.start x.1).subset hy)).2.1
          omega
        have hLl := inN_len a.r a.start x
        have hIn := in_calls a.r hr s1 s2 hx.1 hx.2.1 hx.2.2 _ (Varsb hw hB6) (ruleV_below hv hB6)
        rw [n0] at j6 hc6 hbx6 hB6 hIn
        clear d3 d8
        have eL : inN a.r a.start (x.1.1, x.1.2) = inN a.r a.start x.1 := rfl
        rw [eL] at hIn
        generalize inN a.r a.start x.1 = L at hIn hxs hLl He
        clear eL
        rcases hTil with i2 | ⟨i2, i3⟩
        all_goals
          gi_wp2_with (refine ⟨trivial, ?_⟩; refine (callsIn_wide.2 hIn).mono ?_; rintro e w7 ⟨u2, rfl, hrow2, hb7⟩; obtain ⟨va, vc, rfl⟩ := own_form hrow2)
          have hX7 : Chg (fun j => (W.setCell ⟨b + 4, 0, none⟩ (.int .i64 ((st.2 : Int) + 1))).heap.size ≤ j) (W.setCell ⟨b + 4, 0, none⟩ (.int .i64 ((st.2 : Int) + 1))) w7 := Chg.of_below hb7
          have hs6 : (W.setCell ⟨b + 4, 0, none⟩ (.int .i64 ((st.2 : Int) + 1))).heap.size = W.heap.size := setCell_size _ _ _
          rw [hs6] at hX7 hrow2
          have j7 := j6.keep hX7 fun j hj h => by have := (j6.lt hj).2; rw [hs6] at this; omega
          have hc7 : Chg (Ow b (.slice ua st.1.1.length uc)) W w7 := ⟨hX7.os.trans hc6.os, hX7.tape.trans hc6.tape, hX7.output.trans hc6.output, Nat.le_trans hc6.size hX7.size, fun j hj hn => (hX7.block j (by rw [hs6]; exact hj) (by omega)).trans (hc6.block j hj hn)⟩
          have hLc : ∀ (wq : World), Chg (Ow b (.slice ua st.1.1.length uc)) w7 wq → ∀ (j : Nat) y, L[j]? = some y → ∃ g, va = some ⟨g, 0, none⟩ ∧ wq.cell? ⟨g, j, none⟩ = some (.int .i64 (y : Int)) := fun wq hc j y hj => by
            rcases own_cellZ hrow2 with ⟨_, h0, _⟩ | ⟨g, cap, e, g1, g2, g3⟩
            · rw [List.eq_nil_of_length_eq_zero h0] at hj; cases hj
            · have h1 := g3 j (dayV y) (by rw [List.getElem?_map, hj]; rfl)
              refine ⟨g, by injection e, ?_⟩
              rw [World.cell?_of_block (hc.block g g2 fun h => by have := (j2.lt h).2; omega)]
              exact h1
          have HLc := hidZ hLc
          clear hLc hIn hrow2 hb7 hX7 hs6 j6 hc6 hB6 hbx6
          gi_wp2
          gi_loopw [8, 49] (fun _ i wq => ∃ kk : Nat, kk ≤ L.length ∧ i = .int .i64 (kk : Int) ∧ Hid (∃ (u' : Value) (o' : List Nat) (n' : Nat), daysN a (L.take kk) st.1 = .inl (o', n') ∧ PvM b ask wq u' o' n' (st.2 + 1) false ∧ Later b (.slice ua st.1.1.length uc) u' w7 ∧ Chg (Ow b (.slice ua st.1.1.length uc)) w7 wq)) (fun _ i _ => L.length - (vZ i).toNat)
          case atStart => exact ⟨0, Nat.zero_le _, rfl, hidZ ⟨_, _, _, rfl, j7, Later.refl _ _ _, Chg.refl _ _⟩⟩
          case round =>
            rename World => wq
            obtain ⟨kk, hkk, rfl, HI⟩ := hrel
            obtain ⟨u', o', n', e1, jq, lq, cq⟩ := HI.out
            have hbd := daysN_inl e1 b1
            have htk : (L.take kk).length ≤ lastN := Nat.le_trans (List.length_take_le' _ _) hLl
            obtain ⟨wa, wc, hu'⟩ : ∃ wa wc, u' = .slice wa o'.length wc := own_form jq.hrow
            subst hu'
            have HE := hidZ e1
            have ho' : o'.length ≤ 1000000 := Nat.le_trans hbd.1 hli
            have hl8 : lastN = 3652059 := rfl
            have hn' : n' ≤ 13337538591540 := by have := hbd.2; omega
            have ho1 : o'.length ≤ a.limit := hbd.1
            have m1 := jq.hout.cell
            have mf1 := jq.hout.frozen
            have m2 := jq.hsh.cell
            have mf2 := jq.hsh.frozen
            have m3 := jq.hn.cell
            have mf3 := jq.hn.frozen
            have a2' := kask jq.hask 2 (.int .i64 a.r.count) (by rw [Hask.out]; rfl)
            have a3' := kask jq.hask 3 (.int .i64 a.r.til) (by rw [Hask.out]; rfl)
            have a8' := kask jq.hask 8 (.int .i64 (a.start : Int)) (by rw [Hask.out]; rfl)
            have a9' := kask jq.hask 9 (.int .i64 (a.from_ : Int)) (by rw [Hask.out]; rfl)
            have a10' := kask jq.hask 10 (.int .i64 (a.upto : Int)) (by rw [Hask.out]; rfl)
            have a11' := kask jq.hask 11 (.int .i64 (a.limit : Int)) (by rw [Hask.out]; rfl)
            have hcW : Chg (Ow b (.slice ua st.1.1.length uc)) W wq := hc7.trans cq
            have hlW : Later b (.slice ua st.1.1.length uc) (.slice wa o'.length wc) W := fun j hj => (lq j hj).imp id fun h => Nat.le_trans hc7.size h
            clear e1 hbd HI
            by_cases hkl : kk < L.length
            · obtain ⟨y, hy⟩ : ∃ y, L[kk]? = some y := ⟨_, List.getElem?_eq_getElem hkl⟩
              obtain ⟨g, eg, cg⟩ := HLc.out wq cq kk y hy
              have hy2 := hxs y (List.mem_of_getElem? hy)
              have hst : ∀ r, dayN1 a (o', n') y = r → daysN a (L.take (kk + 1)) st.1 = r := fun r hr => by
                rw [List.take_add_one, hy]
                show daysN a (L.take kk ++ [y]) st.1 = r
                rw [daysN_snoc, HE.out]; exact hr
              have HS := hidZ hst
              have HY := hidZ hy
              have hk1' : (kk : Int) < (L.length : Int) := by omega
              subst eg
              clear hst hy
              have HF := hidZ (show ∀ r, dayN1 a (o', n') y = .inr r → spanN a st x = .inr (r, false) from fun r hr => by
                have h1 := HS.out _ hr
                have h2 := daysN_inr (m := L.drop (kk + 1)) h1
                rw [List.take_append_drop] at h2
                rw [He.out, h2])
              have HW := hidZ (And.intro hcW hlW)
              have hc9 : (0 : Int) ≤ a.r.count := hcnt.1
              by_cases q1 : y < a.start
              · have i6 : (y : Int) < (a.start : Int) := by omega
                gi_wp2
                exact ⟨⟨kk + 1, by omega, by go_num, hidZ ⟨_, o', n', HS.out _ (by unfold dayN1; rw [if_pos q1]), jq, lq, cq⟩⟩, by simp [vZ]; omega⟩
              · have i6 : ¬ (y : Int) < (a.start : Int) := by omega
                by_cases hP1 : 0 < a.r.til ∧ a.r.til < (y : Int)
                · have e2 : dayN1 a (o', n') y = .inr o' := by unfold dayN1; rw [if_neg q1, if_pos (.inl hP1)]
                  have HE2 := hidZ e2
                  clear e2
                  first
                  | exact absurd hP1.1 (by omega)
                  | have t3 := hP1.2
                    gi_wp2
                    exact HR.out _ _ _ _ _ (HF.out _ HE2.out) (jq.fin false) (chgVia HW.out.1 HW.out.2 (chgFin _ _ _ _ _)) HW.out.2
                · have t2 : 0 < a.r.til → ¬ a.r.til < (y : Int) := fun h1 h2 => hP1 ⟨h1, h2⟩
                  try have t3 := t2 i2
                  clear t2
                  have HP1 := hidZ hP1
                  clear hP1
                  by_cases q2 : a.upto < y
                  · have i7 : (a.upto : Int) < (y : Int) := by omega
                    have HE2 := hidZ (show dayN1 a (o', n') y = .inr o' by unfold dayN1; rw [if_neg q1, if_pos (.inr (.inl q2))])
                    gi_wp2
                    exact HR.out _ _ _ _ _ (HF.out _ HE2.out) (jq.fin false) (chgVia HW.out.1 HW.out.2 (chgFin _ _ _ _ _)) HW.out.2
                  · have i7 : ¬ (a.upto : Int) < (y : Int) := by omega
                    by_cases q3 : o'.length = a.limit
                    · have i8 : ((o'.length : Int) == (a.limit : Int)) = true := by rw [beq_iff_eq]; omega
                      have HE2 := hidZ (show dayN1 a (o', n') y = .inr o' by unfold dayN1; rw [if_neg q1, if_pos (.inr (.inr q3))])
                      clear q3
                      gi_wp2
                      exact HR.out _ _ _ _ _ (HF.out _ HE2.out) (jq.fin false) (chgVia HW.out.1 HW.out.2 (chgFin _ _ _ _ _)) HW.out.2
                    · have i8 : ((o'.length : Int) == (a.limit : Int)) = false := by rw [beq_eq_false_iff_ne]; omega
                      have jn := jq.setN (n' + 1)
                      have en : ((n' + 1 : Nat) : Int) = (n' : Int) + 1 := by omega
                      rw [en] at jn
                      have hcn : Chg (Ow b (.slice wa o'.length wc)) wq (wq.setCell ⟨b + 3, 0, none⟩ (.int .i64 ((n' : Int) + 1))) := chgSet wq ⟨b + 3, 0, none⟩ _ (.inl ⟨by show b ≤ b + 3; omega, by show b + 3 ≤ b + 4; omega⟩)
                      have HJ := hidZ (And.intro jn hcn)
                      have HD := hidZ (show dayN1 a (o', n') y = if ((n' + 1 : Nat) : Int) = a.r.count then .inr (if a.from_ ≤ y then o' ++ [y] else o') else .inl (if a.from_ ≤ y then o' ++ [y] else o', n' + 1) by
                        unfold dayN1; rw [if_neg q1, if_neg (by rintro (h | h | h) <;> first | exact HP1.out h | exact q2 h | exact q3 h)])
                      clear jn hcn q3 en
                      by_cases q4 : a.from_ ≤ y
                      · have i9 : (a.from_ : Int) ≤ (y : Int) := by omega
                        have HQ4 := hidZ q4
                        by_cases q5 : ((n' + 1 : Nat) : Int) = a.r.count
                        · have i10 : ((n' : Int) + 1 == a.r.count) = true := by rw [beq_iff_eq]; omega
                          have HQ5 := hidZ q5
                          clear q5 q4
                          gi_wp2_with (gi_at_builtin; refine wpListIn_append_own_at _ rfl _ _ 78 rfl b 26 i0 (.int .i64 0) 1 8 Tryz.underlying78 hi hz0 hz1 hz2 rfl (by decide) _ _ _ rfl (HJ.out.1.hrow.alloc _) ⟨wq.heap.size, 0, none⟩ 1 1 [.int .i64 (y : Int)] rfl rfl (by have q := cell_one_new (wq.setCell ⟨b + 3, 0, none⟩ (.int .i64 ((n' : Int) + 1))) (.int .i64 (y : Int)) 26; rw [setCell_size] at q; exact q) (by simp [Value.oneCell']) (by simp only [maxLen]; omega) (by omega) (by have := HJ.out.1.hspent.lt; rw [World.size_alloc]; omega) ?_; intro v' w8 hown' hgrow _ hat; obtain ⟨g', cap', rfl⟩ := ownsRow_succ hown'; obtain ⟨r0, r1, r2, r3, r4, r5, r6, r7⟩ := HJ.out.1.append hgrow hown' hat; have z1 := r1.cell; have zf1 := r1.frozen; have z3 := r3.cell; have zf2 := r2.frozen; have zc2 := r2.cell; have z2 := kask r0 2 (.int .i64 a.r.count) (by rw [Hask.out]; rfl))
                          have hsw : W.heap.size ≤ (wq.setCell ⟨b + 3, 0, none⟩ (.int .i64 ((n' : Int) + 1))).heap.size := by rw [setCell_size]; exact HW.out.1.size
                          have hs7 : w7.heap.size ≤ (wq.setCell ⟨b + 3, 0, none⟩ (.int .i64 ((n' : Int) + 1))).heap.size := by rw [setCell_size]; exact cq.size
                          have HE2 : dayN1 a (o', n') y = .inr (o' ++ [y]) := by rw [HD.out, if_pos HQ5.out, if_pos HQ4.out]
                          exact HR.out _ _ _ _ _ (HF.out _ HE2) (r5.fin false) (chgVia HW.out.1 HW.out.2 (HJ.out.2.trans (chgVia r6 r7 (chgFin _ _ _ _ _)))) (HW.out.2.trans r7 hsw)
                        · have i10 : ((n' : Int) + 1 == a.r.count) = false := by rw [beq_eq_false_iff_ne]; omega
                          have HQ5 := hidZ q5
                          clear q5 q4
                          gi_wp2_with (gi_at_builtin; refine wpListIn_append_own_at _ rfl _ _ 78 rfl b 26 i0 (.int .i64 0) 1 8 Tryz.underlying78 hi hz0 hz1 hz2 rfl (by decide) _ _ _ rfl (HJ.out.1.hrow.alloc _) ⟨wq.heap.size, 0, none⟩ 1 1 [.int .i64 (y : Int)] rfl rfl (by have q := cell_one_new (wq.setCell ⟨b + 3, 0, none⟩ (.int .i64 ((n' : Int) + 1))) (.int .i64 (y : Int)) 26; rw [setCell_size] at q; exact q) (by simp [Value.oneCell']) (by simp only [maxLen]; omega) (by omega) (by have := HJ.out.1.hspent.lt; rw [World.size_alloc]; omega) ?_; intro v' w8 hown' hgrow _ hat; obtain ⟨g', cap', rfl⟩ := ownsRow_succ hown'; obtain ⟨r0, r1, r2, r3, r4, r5, r6, r7⟩ := HJ.out.1.append hgrow hown' hat; have z1 := r1.cell; have zf1 := r1.frozen; have z3 := r3.cell; have zf2 := r2.frozen; have zc2 := r2.cell; have z2 := kask r0 2 (.int .i64 a.r.count) (by rw [Hask.out]; rfl))
                          have hsw : W.heap.size ≤ (wq.setCell ⟨b + 3, 0, none⟩ (.int .i64 ((n' : Int) + 1))).heap.size := by rw [setCell_size]; exact HW.out.1.size
                          have hs7 : w7.heap.size ≤ (wq.setCell ⟨b + 3, 0, none⟩ (.int .i64 ((n' : Int) + 1))).heap.size := by rw [setCell_size]; exact cq.size
                          exact ⟨⟨kk + 1, by omega, by go_num, hidZ ⟨_, o' ++ [y], n' + 1, HS.out _ (by rw [HD.out, if_neg HQ5.out, if_pos HQ4.out]), r5, lq.trans r7 hs7, chgVia cq lq (HJ.out.2.trans r6)⟩⟩, by simp [vZ]; omega⟩
                      · have i9 : ¬ (a.from_ : Int) ≤ (y : Int) := by omega
                        by_cases q5 : ((n' + 1 : Nat) : Int) = a.r.count
                        · have i10 : ((n' : Int) + 1 == a.r.count) = true := by rw [beq_iff_eq]; omega
                          have HQ5 := hidZ q5
                          clear q5
                          gi_wp2
                          have HE2 : dayN1 a (o', n') y = .inr o' := by rw [HD.out, if_pos HQ5.out, if_neg q4]
                          exact HR.out _ _ _ _ _ (HF.out _ HE2) (HJ.out.1.fin false) (chgVia HW.out.1 HW.out.2 (HJ.out.2.trans (chgFin _ _ _ _ _))) HW.out.2
                        · have i10 : ((n' : Int) + 1 == a.r.count) = false := by rw [beq_eq_false_iff_ne]; omega
                          have HQ5 := hidZ q5
                          clear q5
                          gi_wp2
                          exact ⟨⟨kk + 1, by omega, by go_num, hidZ ⟨_, o', n' + 1, HS.out _ (by rw [HD.out, if_neg HQ5.out, if_neg q4]), HJ.out.1, lq, chgVia cq lq HJ.out.2⟩⟩, by simp [vZ]; omega⟩
            · have hke : kk = L.length := by omega
              have HLe := hidZ hke
              have hk1' : ¬ (kk : Int) < (L.length : Int) := by omega
              clear hke
              have hdl : daysN a L st.1 = .inl (o', n') := by
                have := HE.out
                rwa [HLe.out, List.take_length] at this
              have HDL := hidZ hdl
              clear hdl
              by_cases q1 : o'.length = a.limit
              · have i6 : ((o'.length : Int) == (a.limit : Int)) = true := by rw [beq_iff_eq]; omega
                have HE2 := hidZ (show spanN a st x = .inr (o', false) by rw [He.out, HDL.out]; show (if o'.length = a.limit then _ else _) = _; rw [if_pos q1])
                clear q1
                gi_wp2
                exact HR.out _ _ _ _ _ HE2.out (jq.fin false) (chgVia hcW hlW (chgFin _ _ _ _ _)) hlW
              · have i6 : ((o'.length : Int) == (a.limit : Int)) = false := by rw [beq_eq_false_iff_ne]; omega
                have HE2 := hidZ (show spanN a st x = .inl ((o', n'), st.2 + 1) by rw [He.out, HDL.out]; show (if o'.length = a.limit then _ else _) = _; rw [if_neg q1])
                clear q1
                gi_wp2
                exact HN.out _ _ _ HE2.out jq hcW hlW
  case done =>
    rintro D xs W' O1 eD hD ⟨hS1, hS2, hS3⟩ ⟨u, st, j1, j2, j3, j4⟩ hK
    obtain ⟨ua, uc, rfl⟩ := own_form j2.hrow
    have k1 := j2.hout.cell
    have f1 := j2.hout.frozen
    have k2 := j2.hsh.cell
    have f2 := j2.hsh.frozen
    have hpv := pv_none hS1 (by omega) hS3 j1
    have Hpv := hidZ hpv
    clear hpv
    gi_wp2
    have jf := j2.fin false
    have hKf : ((W'.setCell ⟨b + 1, 0, none⟩ (.slice ua st.1.1.length uc)).setCell ⟨b + 2, 0, none⟩ (.bool false)).heap[D]? = some (.deferred (some [])) := by
      rw [setCell_ne (by show b + 2 ≠ D; omega), setCell_ne (by show b + 1 ≠ D; omega)]; exact hK
    have jd := jf.keep (Chg.putObj _ D (.deferred none) (X := fun k => k = D) rfl) fun j hj h => hD j ((j3 j).2 hj) h
    have c1 := jd.hout.cell
    have c2 := jd.hsh.cell
    refine ⟨by simp, .inl ⟨_, _, rfl, run_takeDeferred hKf, ?_⟩⟩
    refine ⟨.tuple #[.slice ua st.1.1.length uc, .bool false], by simp [results, Tryz.results80, go_sem, c1, c2], .slice ua st.1.1.length uc, ?_, ?_, ?_⟩
    · rw [Hpv.out]
    · rw [Hpv.out]; exact own_base jd.hrow hbw
    · exact ((belowSet (belowSet j4 ⟨b + 1, 0, none⟩ _ (by show w.heap.size ≤ b + 1; omega)) ⟨b + 2, 0, none⟩ _ (by show w.heap.size ≤ b + 2; omega))).trans ((Chg.putObj _ D (.deferred none) (X := fun k => k = D) rfl).below (fun k hk h => by omega) (by rw [setCell_size, setCell_size]; exact j4.size))
  case stop =>
    rintro D c pre W' O1 eD hD ⟨hS1, hS2⟩ ⟨ec, u, o, n', sp', j1, j2, j3, j4⟩ hK
    subst ec
    have hpv := pv_some hS1 (by omega) j1
    have Hpv := hidZ hpv
    clear hpv
    gi_wp2
    have jd := j2.keep (Chg.putObj _ D (.deferred none) (X := fun k => k = D) rfl) fun j hj h => hD j ((j3 j).2 hj) h
    have c1 := jd.hout.cell
    have c2 := jd.hsh.cell
    refine ⟨by simp, .inl ⟨_, _, rfl, run_takeDeferred hK, ?_⟩⟩
    refine ⟨.tuple #[u, .bool o.2], by simp [results, Tryz.results80, go_sem, c1, c2], u, ?_, ?_, ?_⟩
    · rw [Hpv.out]
    · rw [Hpv.out]; exact own_base jd.hrow hbw
    · exact j4.trans ((Chg.putObj W' D (.deferred none) (X := fun k => k = D) rfl).below (fun k hk h => by omega) j4.size)
end Go.Proofs.YtjhnpcnamclfbaaGreatDoor
