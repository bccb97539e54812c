/- A grammar made of small numbers. No condition. -/
import Derived.Test.YtddeekefomhbmaaGreatDoorAd
import Derived.Test.YtddeekefomhbmaaGreatDoorAc
import Derived.Test.YtddeekefomhbmaaGreatDoorAj
namespace Go.Proofs.YtddeekefomhbmaaGreatDoor
open Go Go.RowKit Go.Shelf
attribute [local go_sem] Oper.semAt_some

theorem infoSym : (Tryz.prog.info? 66).map (fun i => (i.zero, i.size, i.bytes)) = some (some (.agg #[.bool false, .int .i64 0, .int .i64 0]), 3, 24) := by kernel_rfl
theorem infoRule : (Tryz.prog.info? 39).map (fun i => (i.zero, i.size, i.bytes)) = some (some (.agg #[.int .i64 0, .slice none 0 0, .int .i64 0]), 3, 40) := by kernel_rfl

/-- A guarded 'len' that is passed over, at a nested guard too. -/
theorem wpListIn_skip_len {F : Fence} {n : Nat} {P : Program} {ops : Array Oper} {Q : Exit → Act → World → Prop} {a : Act} {w : World} {rest : List Oper} {o : Oper} (hw : Region.wanted o (yielded ops a.tmps) = false) (x : Operand) (t : TypeId)
    (hop : o.op = .call { callee := .builtin .len, args := #[x], argTypes := #[t] }) (h : wpListIn F n P ops Q rest (a.put o.dst undef) w) : wpListIn F n P ops Q (o :: rest) a w :=
  wpListIn_skip hw (by simp [Oper.about, hop, resolve, Target.leads, Sem.run_pure]) h
/-- A block of three cells. -/
def Box3 (W : World) (B : Nat) (t : TypeId) (x y z : Value) : Prop := W.heap[B]? = some (.cells #[x, y, z] t (0, 0))
section
variable {W W' : World} {B : Nat} {t : TypeId} {x y z : Value}
theorem Box3.lt (h : Box3 W B t x y z) : B < W.heap.size := (Array.getElem?_eq_some_iff.1 h).1
theorem Box3.c0 (h : Box3 W B t x y z) : W.cell? ⟨B, 0, none⟩ = some x := by simp [World.cell?, show W.heap[B]? = _ from h]
theorem Box3.c1 (h : Box3 W B t x y z) : W.cell? ⟨B, 1, none⟩ = some y := by simp [World.cell?, show W.heap[B]? = _ from h]
theorem Box3.c2 (h : Box3 W B t x y z) : W.cell? ⟨B, 2, none⟩ = some z := by simp [World.cell?, show W.heap[B]? = _ from h]
theorem Box3.frozen (h : Box3 W B t x y z) (o : Nat) : W.frozen? ⟨B, o, none⟩ = false := by simp [World.frozen?, show W.heap[B]? = _ from h]
theorem Box3.keep (h : Box3 W B t x y z) (hb : W'.heap[B]? = W.heap[B]?) : Box3 W' B t x y z := hb.trans h
theorem Box3.set1 (h : Box3 W B t x y z) (y' : Value) : Box3 (W.setCell ⟨B, 1, none⟩ y') B t x y' z := by
  unfold Box3 at h ⊢
  simp [World.setCell, Array.getElem?_modify, h]
theorem Box3.new (W : World) (t : TypeId) (x y z : Value) : Box3 (W.alloc (.cells #[x, y, z] t)) W.heap.size t x y z := World.alloc_heap_new W _
end
theorem cell_three_new (w : World) (x y z : Value) (t : TypeId) : ∀ j u, [x, y, z][j]? = some u → (w.alloc (.cells #[x, y, z] t)).cell? ((⟨w.heap.size, 0, none⟩ : Addr).add j) = some u := by
  intro j u hj
  have h := Box3.new w t x y z
  match j, hj with
  | 0, hj => simp at hj; subst hj; simp [Addr.add, h.c0]
  | 1, hj => simp at hj; subst hj; simp [Addr.add, h.c1]
  | 2, hj => simp at hj; subst hj; simp [Addr.add, h.c2]
theorem rowS_keep {W W' : World} {s : Value} {l : List (Option Nat)} (h : RowS W s l) (hb : ∀ b, s.ownBlock = some b → W'.heap[b]? = W.heap[b]?) : RowS W' s l := by
  rcases h with h | ⟨b, c, rfl, h⟩
  · exact .inl h
  · have hc : ∀ o, W'.cell? ⟨b, o, none⟩ = W.cell? ⟨b, o, none⟩ := fun o => World.cell?_of_block (hb b rfl)
    refine .inr ⟨b, c, rfl, fun j x hj => ?_⟩
    have := h j x hj
    cases x with
    | none => obtain ⟨p, q, h1, h2, h3⟩ := this; exact ⟨p, q, (hc _).trans h1, (hc _).trans h2, (hc _).trans h3⟩
    | some k => obtain ⟨p, h1, h2, h3⟩ := this; exact ⟨p, (hc _).trans h1, (hc _).trans h2, (hc _).trans h3⟩
/-- The rules' cells. -/
def RulesIn (W : World) (lo : Nat) (u : Value) (xs : List Value) (R : List GRule) : Prop := ∀ (j : Nat) (r : GRule), R[j]? = some r → ∃ (s : Value) (t : Int), xs[j * 3]? = some (.int .i64 (r.1 : Int)) ∧ xs[j * 3 + 1]? = some s ∧ xs[j * 3 + 2]? = some (.int .i64 t) ∧ RowS W s r.2 ∧ ∀ b, s.ownBlock = some b → lo ≤ b ∧ u.ownBlock ≠ some b ∧ b < W.heap.size
theorem RulesIn.keep {W W' : World} {lo : Nat} {u u' : Value} {xs ys : List Value} {R : List GRule} (h : RulesIn W lo u xs R) (hl : W.heap.size ≤ W'.heap.size) (hb : ∀ b, lo ≤ b → b < W.heap.size → u.ownBlock ≠ some b → W'.heap[b]? = W.heap[b]?) (hu : u'.ownBlock = u.ownBlock ∨ ∃ m, u'.ownBlock = some m ∧ W.heap.size ≤ m) : RulesIn W' lo u' (xs ++ ys) R := by
  intro j r hj
  obtain ⟨s, t, h1, h2, h3, h4, h5⟩ := h j r hj
  have app : ∀ {i v}, xs[i]? = some v → (xs ++ ys)[i]? = some v := fun {i v} h => by
    rw [List.getElem?_append_left (List.getElem?_eq_some_iff.1 h).1]; exact h
  refine ⟨s, t, app h1, app h2, app h3, rowS_keep h4 fun b e => hb b (h5 b e).1 (h5 b e).2.2 (h5 b e).2.1, fun b e => ⟨(h5 b e).1, ?_, Nat.lt_of_lt_of_le (h5 b e).2.2 hl⟩⟩
  rcases hu with hu | ⟨m, hu, hm⟩
  · rw [hu]; exact (h5 b e).2.1
  · rw [hu]
    intro e2
    have := (h5 b e).2.2
    have : m = b := by injection e2
    omega
theorem RulesIn.snoc {W : World} {lo : Nat} {u : Value} {xs ys : List Value} {R : List GRule} (h : RulesIn W lo u (xs ++ ys) R) {r : GRule} {s : Value} {t : Int} (hl : xs.length = R.length * 3) (hy : ys = [.int .i64 (r.1 : Int), s, .int .i64 t]) (hs : RowS W s r.2) (hb : ∀ b, s.ownBlock = some b → lo ≤ b ∧ u.ownBlock ≠ some b ∧ b < W.heap.size) : RulesIn W lo u (xs ++ ys) (R ++ [r]) := by
  intro j r' hj
  rcases Nat.lt_or_ge j R.length with h1 | h1
  · rw [List.getElem?_append_left h1] at hj
    exact h j r' hj
  · obtain rfl : j = R.length := by
      have := (List.getElem?_eq_some_iff.1 hj).1
      simp at this; omega
    have : r' = r := by simpa using hj.symm
    subst this
    subst hy
    refine ⟨s, t, ?_, ?_, ?_, hs, hb⟩ <;> rw [List.getElem?_append_right (by omega)] <;> simp [hl]
/-- The symbols' cells. -/
def SymsIn (xs : List Value) (l : List (Option Nat)) : Prop := ∀ (j : Nat) y, l[j]? = some y → match y with
  | none => ∃ c : Int, xs[j * 3]? = some (.bool true) ∧ xs[j * 3 + 1]? = some (.int .i64 c) ∧ xs[j * 3 + 2]? = some (.int .i64 0)
  | some k => xs[j * 3]? = some (.bool false) ∧ xs[j * 3 + 1]? = some (.int .i64 0) ∧ xs[j * 3 + 2]? = some (.int .i64 (k : Int))
theorem SymsIn.snoc {xs ys : List Value} {l : List (Option Nat)} (h : SymsIn xs l) (hl : xs.length = l.length * 3) {y : Option Nat} (hy : match y with
  | none => ∃ c : Int, ys = [.bool true, .int .i64 c, .int .i64 0]
  | some k => ys = [.bool false, .int .i64 0, .int .i64 (k : Int)]) : SymsIn (xs ++ ys) (l ++ [y]) := by
  intro j y' hj
  rcases Nat.lt_or_ge j l.length with h1 | h1
  · rw [List.getElem?_append_left h1] at hj
    have app : ∀ {i v}, xs[i]? = some v → (xs ++ ys)[i]? = some v := fun {i v} h => by
      rw [List.getElem?_append_left (List.getElem?_eq_some_iff.1 h).1]; exact h
    have := h j y' hj
    cases y' with
    | none => obtain ⟨c, q1, q2, q3⟩ := this; exact ⟨c, app q1, app q2, app q3⟩
    | some k => obtain ⟨q1, q2, q3⟩ := this; exact ⟨app q1, app q2, app q3⟩
  · obtain rfl : j = l.length := by
      have := (List.getElem?_eq_some_iff.1 hj).1
      simp at this; omega
    have : y' = y := by simpa using hj.symm
    subst this
    cases y' with
    | none =>
      obtain ⟨c, rfl⟩ := hy
      refine ⟨c, ?_, ?_, ?_⟩ <;> rw [List.getElem?_append_right (by omega)] <;> simp [hl]
    | some k =>
      have hy : ys = [.bool false, .int .i64 0, .int .i64 (k : Int)] := hy
      subst hy
      refine ⟨?_, ?_, ?_⟩ <;> rw [List.getElem?_append_right (by omega)] <;> simp [hl]
theorem own_cells {w : World} {base : Nat} {e : TypeId} {v : Value} {n : Nat} {xs : List Value} (h : w.ownsRow base e 3 v n xs) : (v = .slice none 0 0 ∧ n = 0) ∨ ∃ g cap, v = .slice (some ⟨g, 0, none⟩) n cap ∧ base ≤ g ∧ g < w.heap.size ∧ ∀ (j : Nat) u, xs[j]? = some u → w.cell? ⟨g, j, none⟩ = some u := by
  obtain ⟨hl, h | ⟨g, cap, cur, rfl, h1, h2, _, _, _, h6⟩⟩ := h
  · exact .inl h
  · refine .inr ⟨g, cap, rfl, h1, (Array.getElem?_eq_some_iff.1 h2).1, fun j u hj => ?_⟩
    rw [← h6, List.getElem?_take] at hj
    split at hj
    · simp only [World.cell?, h2]
      simpa using hj
    · cases hj
theorem Chg.setCellN (A : World) (a : Addr) (v : Value) {X : Nat → Prop} (hl : X a.block) : Chg X A (A.setCell a v) :=
  ⟨rfl, rfl, rfl, by simp [World.setCell], fun k hk hx => by
    have : a.block ≠ k := fun e => hx (e ▸ hl)
    simp [World.setCell, Array.getElem?_modify, this]⟩
theorem Chg.new {X : Nat → Prop} {A B : World} (h : Chg (fun x => X x ∨ A.heap.size ≤ x) A B) : Chg X A B := ⟨h.os, h.tape, h.output, h.size, fun k hk hx => h.block k hk fun e => e.elim hx (fun e => by omega)⟩
theorem Chg.ownsRowN {X : Nat → Prop} {A B : World} {base n size : Nat} {e : TypeId} {v : Value} {xs : List Value} (hc : Chg X A B) (h : A.ownsRow base e size v n xs) (hx : ∀ g, v.ownBlock = some g → ¬ X g) : B.ownsRow base e size v n xs := by
  obtain ⟨h1, h2⟩ := h
  refine ⟨h1, ?_⟩
  rcases h2 with h2 | ⟨g, cap, cur, rfl, q1, q2, q3⟩
  · exact .inl h2
  · exact .inr ⟨g, cap, cur, rfl, q1, (hc.block g (Array.getElem?_eq_some_iff.1 q2).1 (hx g rfl)).trans q2, q3⟩
theorem own_form {w : World} {base size : Nat} {e : TypeId} {v : Value} {n : Nat} {xs : List Value} (h : w.ownsRow base e size v n xs) (hn : 0 < n) : ∃ g cap, v = .slice (some ⟨g, 0, none⟩) n cap := by
  rcases h.2 with ⟨_, h0⟩ | ⟨g, cap, _, e, _⟩
  · omega
  · exact ⟨g, cap, e⟩
theorem SymsIn.rowS {W : World} {base : Nat} {e : TypeId} {v : Value} {l : List (Option Nat)} {xs : List Value} (h : SymsIn xs l) (ho : W.ownsRow base e 3 v l.length xs) : RowS W v l := by
  rcases own_cells ho with ⟨rfl, h0⟩ | ⟨g, cap, rfl, _, _, hc⟩
  · exact .inl ⟨rfl, List.eq_nil_of_length_eq_zero h0⟩
  · refine .inr ⟨g, cap, rfl, fun j y hj => ?_⟩
    have := h j y hj
    cases y with
    | none => obtain ⟨c, q1, q2, q3⟩ := this; exact ⟨c, 0, hc _ _ q1, hc _ _ q2, hc _ _ q3⟩
    | some k => obtain ⟨q1, q2, q3⟩ := this; exact ⟨0, hc _ _ q1, hc _ _ q2, hc _ _ q3⟩
theorem RulesIn.isG {W : World} {base : Nat} {e : TypeId} {v : Value} {R : List GRule} {xs : List Value} {lo : Nat} (h : RulesIn W lo v xs R) (ho : W.ownsRow base e 3 v R.length xs) : IsG W v R := by
  rcases own_cells ho with ⟨rfl, h0⟩ | ⟨g, cap, rfl, _, _, hc⟩
  · exact .inl ⟨rfl, List.eq_nil_of_length_eq_zero h0⟩
  · refine .inr ⟨g, cap, rfl, fun j r hj => ?_⟩
    obtain ⟨s, t, q1, q2, q3, q4, _⟩ := h j r hj
    exact ⟨s, t, ⟨hc _ _ q1, hc _ _ q2, hc _ _ q3⟩, q4⟩
theorem rowG_form {w : World} {v : Value} {gs : List (Nat × List Nat)} (h : RowG w v gs) : ∃ a c, v = .slice a gs.length c := by
  rcases h with ⟨a, c, rfl, rfl⟩ | ⟨b, o, c, rfl, _⟩
  · exact ⟨_, _, rfl⟩
  · exact ⟨_, _, rfl⟩
theorem rowU_form {w : World} {v : Value} {zs : List Nat} (h : RowU w v zs) : ∃ a c, v = .slice a zs.length c := by
  rcases h with ⟨a, c, rfl, rfl⟩ | ⟨b, o, c, rfl, _⟩
  · exact ⟨_, _, rfl⟩
  · exact ⟨_, _, rfl⟩

set_option maxRecDepth 100000 in
set_option maxHeartbeats 2000000 in
theorem make_calls (v : Value) (gs : List (Nat × List Nat)) (w : World) (hG : ∀ W, Below w.heap.size w W → RowG W v gs) (hlen : gs.length ≤ 100) (hr : ∀ g ∈ gs, g.2.length ≤ 100) (hbnd : ∀ g ∈ gs, ∀ z ∈ g.2, z < 256) :
    Calls Tryz.prog 8 #[v] w fun e w' => ∃ u, e = .returned (.agg #[u]) ∧ IsG w' u (makeG gs) ∧ Below w.heap.size w w' := by
  have t330 := Tryz.underlying27; have a330 := Tryz.isAgg27; have z330 := Tryz.sizeOf27; have u330 := run_underlying Tryz.underlying27
  have t402 := Tryz.underlying39; have a402 := Tryz.isAgg39; have z402 := Tryz.sizeOf39; have u402 := run_underlying Tryz.underlying39
  have t404 := Tryz.underlying66; have a404 := Tryz.isAgg66; have z404 := Tryz.sizeOf66; have u404 := run_underlying Tryz.underlying66
  have t32 := Tryz.underlying32; have a32 := Tryz.isAgg32; have z32 := Tryz.sizeOf32; have u32 := run_underlying Tryz.underlying32
  obtain ⟨va, vc, rfl⟩ := rowG_form (hG w (Below.refl _ _))
  obtain ⟨iS, hiS, hzS0, hzS1, hzS2⟩ := info_parts infoSym
  obtain ⟨iR, hiR, hzR0, hzR1, hzR2⟩ := info_parts infoRule
  refine (callsIn_wide (n := 10)).1 ?_
  refine callsIn_of_wp Tryz.func8 (by unfold Tryz.f8; rfl) trivial ?_ rfl
  simp only [Tryz.ntmps8, List.size_toArray, List.length_cons, List.length_nil, Nat.reduceAdd, Nat.reduceSub, Array.replicate_succ, Array.replicate_zero, List.push_toArray, List.append_toArray, List.nil_append, List.cons_append]
  gi_wp2
  obtain ⟨W0, hW0⟩ : ∃ W0, ((w.alloc (.cells #[.slice none 0 0] 27)).alloc (.cells #[.slice none 0 0] 27)) = W0 := ⟨_, rfl⟩
  rw [hW0]
  have hs0 : W0.heap.size = w.heap.size + 2 := by rw [← hW0]; simp
  gi_loopw [11] (fun i wr => ∃ (k : Nat) (u : Value) (xs : List Value), k ≤ gs.length ∧ i = .int .i64 k ∧ Hid (Chg (fun x => w.heap.size + 1 ≤ x) W0 wr) ∧ Hid (Boxed wr (w.heap.size + 1) 27 u) ∧ Hid (wr.ownsRow (w.heap.size + 2) 39 3 u k xs) ∧ Hid (RulesIn wr (w.heap.size + 2) u xs (makeG (gs.take k)))) (fun i _ => gs.length - (intOf i).toNat)
  case atStart =>
    refine ⟨0, .slice none 0 0, [], Nat.zero_le _, rfl, hid' (Chg.refl _ _), hid' ?_, hid' (World.ownsRow_nil _ _ _ _), hid' (fun j r h => by simp [makeG] at h)⟩
    rw [← hW0]
    have := Boxed.new (w.alloc (.cells #[.slice none 0 0] 27)) 27 (.slice none 0 0)
    simpa using this
  case round =>
    rename World => wq
    obtain ⟨k, u, xs, hk, rfl, hC, hB, hO, hR⟩ := hrel
    by_cases hkn : k < gs.length
    · obtain ⟨g, hg⟩ : ∃ g, gs[k]? = some g := ⟨_, List.getElem?_eq_getElem hkn⟩
      have hBw : Below w.heap.size w wq := by
        have h1 : Below w.heap.size w W0 := by rw [← hW0]; exact (((Below.refl w.heap.size w).alloc (Nat.le_refl _) _).alloc (by simp) _)
        exact h1.trans (hC.out.below (fun q hq e => by omega) (by omega))
      have hgl : g.2.length ≤ 100 := hr g (List.mem_of_getElem? hg)
      obtain ⟨b, o, s, rfl, c0, c1, hU⟩ : ∃ b o s, va = some ⟨b, o, none⟩ ∧ wq.cell? ⟨b, o + k * 2, none⟩ = some (.int .u8 (g.1 : Int)) ∧ wq.cell? ⟨b, o + k * 2 + 1, none⟩ = some s ∧ RowU wq s g.2 := by
        rcases hG wq hBw with ⟨a, c, _, e⟩ | ⟨b, o, c, e, h⟩
        · rw [e] at hg; simp at hg
        · obtain ⟨h1, s, h2, h3⟩ := h k g hg
          have e : va = some ⟨b, o, none⟩ := by injection e
          exact ⟨b, o, s, e, by rw [Nat.mul_comm]; exact h1, by rw [Nat.mul_comm k 2, Nat.add_assoc]; exact h2, h3⟩
      obtain ⟨sx, sc, rfl⟩ := rowU_form hU
      have HU := hid' hU
      clear hU
      gi_wp2
      obtain ⟨W1, hW1⟩ : ∃ W1, ((wq.alloc (.cells #[.int .u8 (g.1 : Int), .slice sx g.2.length sc] 32)).alloc (.cells #[.int .i64 ((g.1 : Int) % 4), .slice none 0 0, .int .i64 (k : Int)] 39)) = W1 := ⟨_, rfl⟩
      rw [hW1]
      have hs1 : W1.heap.size = wq.heap.size + 2 := by rw [← hW1]; simp
      have hq1 : Chg (fun _ => False) wq W1 := by rw [← hW1]; exact (Chg.alloc _ _ _).trans (Chg.alloc _ _ _)
      gi_loopw [25] (fun j W => ∃ (q : Nat) (u2 : Value) (ys : List Value), q ≤ g.2.length ∧ j = .int .i64 q ∧ Hid (Chg (fun x => wq.heap.size + 1 ≤ x) W1 W) ∧ Hid (Box3 W (wq.heap.size + 1) 39 (.int .i64 ((g.1 : Int) % 4)) u2 (.int .i64 (k : Int))) ∧ Hid (W.ownsRow (wq.heap.size + 2) 66 3 u2 q ys) ∧ Hid (SymsIn ys ((g.2.take q).map makeS))) (fun j _ => g.2.length - (intOf j).toNat)
      case atStart =>
        refine ⟨0, .slice none 0 0, [], Nat.zero_le _, rfl, hid' (Chg.refl _ _), hid' ?_, hid' (World.ownsRow_nil _ _ _ _), hid' (fun j r h => by simp at h)⟩
        rw [← hW1]
        have := Box3.new (wq.alloc (.cells #[.int .u8 (g.1 : Int), .slice sx g.2.length sc] 32)) 39 (.int .i64 ((g.1 : Int) % 4)) (.slice none 0 0) (.int .i64 (k : Int))
        simpa using this
      case round =>
        rename World => wz
        obtain ⟨q, u2, ys, hq, rfl, hC2, hB2, hO2, hS2⟩ := hrel
        by_cases hqn : q < g.2.length
        · obtain ⟨z, hz⟩ : ∃ z, g.2[q]? = some z := ⟨_, List.getElem?_eq_getElem hqn⟩
          obtain ⟨bz, oz, rfl, cz⟩ : ∃ bz oz, sx = some ⟨bz, oz, none⟩ ∧ wz.cell? ⟨bz, oz + q, none⟩ = some (.int .u8 (z : Int)) := by
            rcases HU.out with ⟨a, c, _, e⟩ | ⟨b', o', c', e, h⟩
            · rw [e] at hz; simp at hz
            · have e : sx = some ⟨b', o', none⟩ := by injection e
              have h1 := h q z hz
              have hbl := lt_of_cellC h1
              refine ⟨b', o', e, ?_⟩
              rw [← h1]
              have hbl : b' < wq.heap.size := hbl
              exact World.cell?_of_block ((hC2.out.block b' (by omega) (by omega)).trans (hq1.block b' hbl (fun h => h)))
          have c1' := hB2.out.c1
          have f1' := hB2.out.frozen 1
          have hsz := hC2.out.size
          have htk : (g.2.take (q + 1)).map makeS = (g.2.take q).map makeS ++ [makeS z] := by rw [List.take_add_one, hz]; simp
          have hyl : ys.length = ((g.2.take q).map makeS).length * 3 := by rw [hO2.out.1, List.length_map, List.length_take, Nat.min_eq_left hq]
          have hun : u2.ownBlock ≠ some (wq.heap.size + 1) := fun e => by have := (hO2.out.lt _ e).1; omega
          by_cases he : z % 2 = 0
          · have he' : (z : Int) % 2 = 0 := by omega
            gi_wp2_with (gi_at_builtin; refine wpListIn_append_own_at _ rfl _ _ 37 rfl (wq.heap.size + 2) 66 iS (.agg #[.bool false, .int .i64 0, .int .i64 0]) 3 24 Tryz.underlying37 hiS hzS0 hzS1 hzS2 rfl (by decide) u2 q ys rfl (hO2.out.alloc _) ⟨wz.heap.size, 0, none⟩ 1 1 [.bool true, .int .i64 _, .int .i64 0] rfl rfl (cell_three_new wz _ _ _ 66) (by simp [Value.oneCell']) (by simp only [maxLen]; omega) (by omega) (by simp; omega) ?_; intro v' w3 hown' hgrow _ hat; obtain ⟨g', cap, hv⟩ := own_form hown' (by omega); have hb3 := (hB2.out.keep (W' := wz.alloc _) (Below.heap_alloc _ _ _ hB2.out.lt)).keep (hgrow.block _ (by have := hB2.out.lt; simp; omega) (fun e => hun e.symm)); have k1 := hb3.c1; have k2 := hb3.frozen 1; rw [hv])
            have hch : Chg (fun x => wq.heap.size + 1 ≤ x) wz (w3.setCell ⟨wq.heap.size + 1, 1, none⟩ (.slice (some ⟨g', 0, none⟩) (q + 1) cap)) := ((Chg.alloc wz _ _).trans (Chg.grown hgrow fun r e => by have := (hO2.out.lt r e).1; omega)).trans (Chg.setCellN _ _ _ (by show wq.heap.size + 1 ≤ wq.heap.size + 1; omega))
            rw [hv] at hown'
            refine ⟨⟨q + 1, .slice (some ⟨g', 0, none⟩) (q + 1) cap, _, by omega, by go_num, hid' (hC2.out.trans hch), hid' (hb3.set1 _), hid' ((Chg.setCellN (X := fun x => x = wq.heap.size + 1) w3 _ _ rfl).ownsRowN hown' fun g e1 e2 => ?_), hid' ?_⟩, by simp [intOf]; omega⟩
            · have := (hown'.lt _ e1).1; omega
            · rw [htk]
              exact hS2.out.snoc hyl (by rw [show makeS z = none by simp [makeS, he]]; exact ⟨_, rfl⟩)
          · have he' : (z : Int) % 2 ≠ 0 := by omega
            gi_wp2_with (gi_at_builtin; refine wpListIn_append_own_at _ rfl _ _ 37 rfl (wq.heap.size + 2) 66 iS (.agg #[.bool false, .int .i64 0, .int .i64 0]) 3 24 Tryz.underlying37 hiS hzS0 hzS1 hzS2 rfl (by decide) u2 q ys rfl (hO2.out.alloc _) ⟨wz.heap.size, 0, none⟩ 1 1 [.bool false, .int .i64 0, .int .i64 _] rfl rfl (cell_three_new wz _ _ _ 66) (by simp [Value.oneCell']) (by simp only [maxLen]; omega) (by omega) (by simp; omega) ?_; intro v' w3 hown' hgrow _ hat; obtain ⟨g', cap, hv⟩ := own_form hown' (by omega); have hb3 := (hB2.out.keep (W' := wz.alloc _) (Below.heap_alloc _ _ _ hB2.out.lt)).keep (hgrow.block _ (by have := hB2.out.lt; simp; omega) (fun e => hun e.symm)); have k1 := hb3.c1; have k2 := hb3.frozen 1; rw [hv])
            have hch : Chg (fun x => wq.heap.size + 1 ≤ x) wz (w3.setCell ⟨wq.heap.size + 1, 1, none⟩ (.slice (some ⟨g', 0, none⟩) (q + 1) cap)) := ((Chg.alloc wz _ _).trans (Chg.grown hgrow fun r e => by have := (hO2.out.lt r e).1; omega)).trans (Chg.setCellN _ _ _ (by show wq.heap.size + 1 ≤ wq.heap.size + 1; omega))
            rw [hv] at hown'
            refine ⟨⟨q + 1, .slice (some ⟨g', 0, none⟩) (q + 1) cap, _, by omega, by go_num, hid' (hC2.out.trans hch), hid' (hb3.set1 _), hid' ((Chg.setCellN (X := fun x => x = wq.heap.size + 1) w3 _ _ rfl).ownsRowN hown' fun g e1 e2 => ?_), hid' ?_⟩, by simp [intOf]; omega⟩
            · have := (hown'.lt _ e1).1; omega
            · rw [htk]
              exact hS2.out.snoc hyl (by
                rw [show makeS z = some (z / 2 % 4) by simp [makeS, he]]
                show _ = _
                have hzl : z < 256 := hbnd g (List.mem_of_getElem? hg) z (List.mem_of_getElem? hz)
                rw [show (z : Int) / 2 % 4 = ((z / 2 % 4 : Nat) : Int) by omega])
        · have hqe : q = g.2.length := by omega
          subst hqe
          rw [List.take_length] at hS2
          have hbz : ∀ x, x ≤ wq.heap.size → x < wq.heap.size → wz.heap[x]? = wq.heap[x]? := fun x h1 h2 => (hC2.out.block x (by omega) (by omega)).trans (hq1.block x h2 (fun h => h))
          have hsz := hC2.out.size
          have hqlow := hC.out.size
          have hBz : Boxed wz (w.heap.size + 1) 27 u := (hbz _ (by have := hB.out.lt; omega) hB.out.lt).trans hB.out
          have hch1 : Chg (fun x => wq.heap.size ≤ x) wq wz := (hq1.more fun _ _ h => h.elim).trans (hC2.out.more fun k _ h => by omega)
          have hOz : wz.ownsRow (w.heap.size + 2) 39 3 u k xs := hch1.ownsRowN hO.out fun g e => by have := (hO.out.lt g e).2; omega
          have hRz : RulesIn wz (w.heap.size + 2) u xs (makeG (gs.take k)) := by
            have := hR.out.keep (u' := u) (ys := []) (W' := wz) (by omega) (fun b _ hb _ => hbz b (by omega) hb) (.inl rfl)
            rwa [List.append_nil] at this
          obtain ⟨a2, cap2, hu2⟩ : ∃ a c, u2 = .slice a g.2.length c := by
            rcases hO2.out.2 with ⟨e, h0⟩ | ⟨g', cap, _, e, _⟩
            · exact ⟨none, 0, by rw [e, h0]⟩
            · exact ⟨_, _, e⟩
          have hRow : RowS wz u2 (g.2.map makeS) := hS2.out.rowS (l := g.2.map makeS) (by rw [List.length_map]; exact hO2.out)
          have hu2lt := hO2.out.lt
          have q0 := hB2.out.c0
          have q1 := hB2.out.c1
          have q2 := hB2.out.c2
          have g0 := hBz.cell
          have g1 := hBz.frozen
          subst hu2
          have hun : u.ownBlock ≠ some (w.heap.size + 1) := fun e => by have := (hO.out.lt _ e).1; omega
          gi_wp2_with (gi_at_builtin; refine wpListIn_append_own_at _ rfl _ _ 25 rfl (w.heap.size + 2) 39 iR (.agg #[.int .i64 0, .slice none 0 0, .int .i64 0]) 3 40 Tryz.underlying25 hiR hzR0 hzR1 hzR2 rfl (by decide) u k xs rfl (hOz.alloc _) ⟨wz.heap.size, 0, none⟩ 1 1 [.int .i64 ((g.1 : Int) % 4), .slice a2 g.2.length cap2, .int .i64 (k : Int)] rfl rfl (cell_three_new wz _ _ _ 39) (by simp [Value.oneCell']) (by simp only [maxLen]; omega) (by omega) (by simp; omega) ?_; intro v' w3 hown' hgrow _ hat; obtain ⟨g', cap, hv⟩ := own_form hown' (by omega); have hb3 : Boxed w3 (w.heap.size + 1) 27 u := (hBz.alloc _).kept hgrow (fun e => hun e.symm); have k1 := hb3.cell; have k2 := hb3.frozen; rw [hv])
          rw [hv] at hown' hat
          have hgb : ∀ b, b < wz.heap.size → u.ownBlock ≠ some b → w3.heap[b]? = wz.heap[b]? := fun b hb hn => (hgrow.block b (by simp; omega) (fun e => hn e.symm)).trans (Below.heap_alloc _ _ _ hb)
          have hw3 : wz.heap.size ≤ w3.heap.size := by have := hgrow.size; simp at this; omega
          have hset : ∀ b, b ≠ w.heap.size + 1 → (w3.setCell ⟨w.heap.size + 1, 0, none⟩ (.slice (some ⟨g', 0, none⟩) (k + 1) cap)).heap[b]? = w3.heap[b]? := fun b hb => by
            have : w.heap.size + 1 ≠ b := fun e => hb e.symm
            simp [World.setCell, Array.getElem?_modify, this]
          have htk : makeG (gs.take (k + 1)) = makeG (gs.take k) ++ [makeR g] := by
            rw [List.take_add_one, hg]; simp [makeG]
          have hxl : xs.length = (makeG (gs.take k)).length * 3 := by rw [hO.out.1]; unfold makeG; rw [List.length_map, List.length_take, Nat.min_eq_left hk]
          have hch : Chg (fun x => w.heap.size + 1 ≤ x) wz (w3.setCell ⟨w.heap.size + 1, 0, none⟩ (.slice (some ⟨g', 0, none⟩) (k + 1) cap)) := ((Chg.alloc wz _ _).trans (Chg.grown hgrow fun r e => by have := (hO.out.lt r e).1; omega)).trans (Chg.setCellN _ _ _ (by show w.heap.size + 1 ≤ w.heap.size + 1; omega))
          refine ⟨⟨k + 1, .slice (some ⟨g', 0, none⟩) (k + 1) cap, _, by omega, by go_num, hid' ((hC.out.trans (hch1.more fun x _ h => by omega)).trans hch), hid' (hb3.set _), hid' ((Chg.setCellN (X := fun x => x = w.heap.size + 1) w3 _ _ rfl).ownsRowN hown' fun g e1 e2 => ?_), hid' ?_⟩, by simp [intOf]; omega⟩
          · have := (hown'.lt _ e1).1; omega
          · rw [htk]
            have hl3 : (w3.setCell ⟨w.heap.size + 1, 0, none⟩ (.slice (some ⟨g', 0, none⟩) (k + 1) cap)).heap.size = w3.heap.size := by simp [World.setCell]
            have hbw : w.heap.size + 1 < wq.heap.size := hB.out.lt
            refine RulesIn.snoc (RulesIn.keep hRz (by omega) (fun b hlo hb hn => ?_) ?_) hxl (show _ = [Value.int .i64 (((makeR g).1 : Nat) : Int), .slice a2 g.2.length cap2, .int .i64 (k : Int)] from by simp [makeR]) (rowS_keep hRow fun b e => ?_) (fun b e => ?_)
            · exact (hset b (by omega)).trans (hgb b hb hn)
            · rcases hat with h | h
              · exact .inl h
              · exact .inr ⟨_, h, by simp⟩
            · have h1 := hu2lt b e
              have h3 : u.ownBlock ≠ some b := fun e2 => by have := (hO.out.lt _ e2).2; omega
              exact (hset b (by omega)).trans (hgb b h1.2 h3)
            · have h1 := hu2lt b e
              refine ⟨by omega, ?_, by omega⟩
              rcases hat with h | h
              · rw [h]; intro e2; have := (hO.out.lt _ e2).2; omega
              · rw [h]; intro e2
                have : (wz.alloc (.cells #[.int .i64 ((g.1 : Int) % 4), .slice a2 g.2.length cap2, .int .i64 (k : Int)] 39)).heap.size = b := by injection e2
                simp at this; omega
    · have hke : k = gs.length := by omega
      subst hke
      rw [List.take_length] at hR
      have g0 := hB.out.cell
      have g1 := hB.out.frozen
      have hz0 : Boxed wq w.heap.size 27 (.slice none 0 0) := by
        refine (hC.out.block _ (by omega) (by omega)).trans ?_
        rw [← hW0]
        exact (Below.heap_alloc _ _ _ (by simp)).trans (Boxed.new w 27 _)
      have z0 := hz0.cell
      have z1 := hz0.frozen
      obtain ⟨ua, uc, hu⟩ : ∃ a c, u = .slice a gs.length c := by
        rcases hO.out.2 with ⟨e, h0⟩ | ⟨g', cap, _, e, _⟩
        · exact ⟨none, 0, by rw [e, h0]⟩
        · exact ⟨_, _, e⟩
      subst hu
      gi_wp2
      have hz2 := hz0.set (.slice ua gs.length uc)
      have z3 := hz2.cell
      refine bodyPost_ret (v := .agg #[.slice ua gs.length uc]) (by simp [results, Tryz.results8, go_sem, z3]) rfl ?_
      have hl3 : (wq.setCell ⟨w.heap.size, 0, none⟩ (.slice ua gs.length uc)).heap.size = wq.heap.size := by simp [World.setCell]
      have hset : ∀ b, b ≠ w.heap.size → (wq.setCell ⟨w.heap.size, 0, none⟩ (.slice ua gs.length uc)).heap[b]? = wq.heap[b]? := fun b hb => by
        have : w.heap.size ≠ b := fun e => hb e.symm
        simp [World.setCell, Array.getElem?_modify, this]
      refine ⟨_, rfl, ?_, ?_⟩
      · have hO2 : (wq.setCell ⟨w.heap.size, 0, none⟩ (.slice ua gs.length uc)).ownsRow (w.heap.size + 2) 39 3 (.slice ua gs.length uc) (makeG gs).length xs := by
          unfold makeG; rw [List.length_map]
          exact (Chg.setCellN (X := fun x => x = w.heap.size) wq _ _ rfl).ownsRowN hO.out fun g e1 e2 => by have := (hO.out.lt _ e1).1; omega
        have := hR.out.keep (u' := .slice ua gs.length uc) (ys := []) (W' := wq.setCell ⟨w.heap.size, 0, none⟩ (.slice ua gs.length uc)) (by omega) (fun b hlo _ _ => hset b (by omega)) (.inl rfl)
        rw [List.append_nil] at this
        exact this.isG hO2
      · have h1 : Below w.heap.size w W0 := by rw [← hW0]; exact (((Below.refl w.heap.size w).alloc (Nat.le_refl _) _).alloc (by simp) _)
        exact (h1.trans (hC.out.below (fun q hq e => by omega) (by omega))).trans ((Chg.setCellN (X := fun x => x = w.heap.size) wq ⟨w.heap.size, 0, none⟩ _ rfl).below (fun k hk e => by omega) (by have := hC.out.size; omega))
end Go.Proofs.YtddeekefomhbmaaGreatDoor
