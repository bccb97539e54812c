/- slices.Collect over desk.Requests. No condition. -/
import Derived.Test.YtnnhijfbdkokkaaGreatDoorNf
import Derived.Maps.AppendAt
import Derived.Maps.OwnIn
namespace Go.Proofs.YtnnhijfbdkokkaaGreatDoor
open Go Go.RowKit Go.Shelf Go.Maps
attribute [local go_sem] Oper.semAt_some

theorem info9 : (Tryz.prog.info? 9).map (fun i => (i.zero, i.size, i.bytes)) = some (some (.string ⟨#[]⟩), 1, 16) := by kernel_rfl
theorem Chg.ownsRow {X : Nat → Prop} {A B : World} {base n : Nat} {e : TypeId} {v : Value} {xs : List Value} (h : A.ownsRow base e 1 v n xs) (hc : Chg X A B) (hx : ∀ g, v.ownBlock = some g → ¬ X g) : B.ownsRow base e 1 v n xs := by
  obtain ⟨h1, h2⟩ := h
  refine ⟨h1, ?_⟩
  rcases h2 with h2 | ⟨g, cap, cur, rfl, q1, q2, q3⟩
  · exact .inl h2
  · exact .inr ⟨g, cap, cur, rfl, q1, (hc.block g (Array.getElem?_eq_some_iff.1 q2).1 (hx g rfl)).trans q2, q3⟩
theorem Chg.grown {X : Nat → Prop} {A B : World} {row : Option Nat} (h : A.grownBy B row) (hx : ∀ r, row = some r → X r) : Chg X A B := ⟨h.os, h.tape, h.output, h.size, fun k hk hn => h.block k hk fun e => hn (hx k e.symm)⟩
theorem Chg.boxed {X : Nat → Prop} {A B : World} {b : Nat} {t : TypeId} {v : Value} (h : Boxed A b t v) (hc : Chg X A B) (hx : ¬ X b) : Boxed B b t v := (hc.block b h.lt hx).trans h

set_option maxRecDepth 100000 in
set_option maxHeartbeats 2000000 in
theorem append78 (b0 : Nat) (s : ByteArray) (hs : s.size ≤ 1000000) (hN : (parts s).length ≤ 1000001) (w : World) (hb0 : Boxed w b0 9 (.string s)) :
    Calls Tryz.prog 78 #[.slice none 0 0, .func (.func 76) #[] #[.pointer (some ⟨b0, 0, none⟩)]] w fun e W' => ∃ v, e = .returned v ∧ W'.ownsRow w.heap.size 9 1 v (lines (parts s)).length ((lines (parts s)).map Value.string) ∧ Below w.heap.size w W' := by
  obtain ⟨i0, hi, hz0, hz1, hz2⟩ := info_parts info9
  refine (callsIn_wide (n := 10)).1 ?_
  refine callsIn_of_wp_marks Tryz.func78 rfl trivial ?_ rfl
  simp only [Tryz.ntmps78, List.size_toArray, List.length_cons, List.length_nil, Nat.reduceAdd, Nat.reduceSub, Array.replicate_succ, Array.replicate_zero, List.push_toArray, List.append_toArray, List.nil_append, List.cons_append]
  gi_wp2
  obtain ⟨W4, hW4⟩ : ∃ W4, w.alloc (.cells #[.slice none 0 0] 35) = W4 := ⟨_, rfl⟩
  have q0 : Boxed W4 w.heap.size 35 (.slice none 0 0) := by rw [← hW4]; exact Boxed.new w 35 _
  have q1 : Boxed W4 b0 9 (.string s) := by rw [← hW4]; exact hb0.alloc _
  have hsz : W4.heap.size = w.heap.size + 1 := by rw [← hW4]; simp
  have hB4 : Below w.heap.size w W4 := by rw [← hW4]; exact (Below.refl _ _).alloc (Nat.le_refl _) _
  rw [hW4]
  refine wpIn_rangeFunc_O rfl (by omega) (gf := 76) (lb := #[.pointer (some ⟨b0, 0, none⟩)]) rfl trivial (enters_of Tryz.func76 (by kernel_rfl) rfl)
    (req_iter (10 - 1) (by omega) b0 w.heap.size s hs) rfl (fun W5 h5 => h5.boxed q1 (fun h => h)) (by omega)
    (fun O1 pre W' => ∃ v, Boxed W' w.heap.size 35 v ∧ W'.ownsRow w.heap.size 9 1 v pre.length (pre.map Value.string) ∧ (∀ k, O1 k ↔ (k = w.heap.size ∨ v.ownBlock = some k)) ∧ Below w.heap.size w W')
    (fun _ _ _ _ => False)
    (fun k => k = w.heap.size) (fun k hk => by have : k = w.heap.size := hk; omega) (fun k hk => hk.elim)
    (fun O1 pre A B ⟨v, j1, j2, j3, j4⟩ hc => ⟨v, hc.boxed j1 (fun h => h.2 ((j3 _).2 (.inl rfl))), hc.ownsRow j2 (fun g hg h => h.2 ((j3 _).2 (.inr hg))), j3, j4.trans (hc.below (fun k hk h => by omega) j4.size)⟩)
    (fun _ _ _ _ _ h _ => h)
    ⟨_, q0, World.ownsRow_nil _ _ _ _, fun k => ⟨fun h => .inl h, fun h => by rcases h with h | h <;> first | exact h | (simp [Value.ownBlock] at h)⟩, hB4⟩
    (fun x => { tmps := #[.slice none 0 0, .func (.func 76) #[] #[.pointer (some ⟨b0, 0, none⟩)], .pointer (some ⟨w.heap.size, 0, none⟩), undef, .slice none 0 0, .string x, .func (.func 76) #[] #[.pointer (some ⟨b0, 0, none⟩)], .string x, undef, undef, undef, undef, undef], defers := [] }) ?assign ?body ?done ?stop
  case assign =>
    intro l' x W' K hK
    gi_wp2
    exact hK
  case body =>
    rintro l' pre x W O1 el hl' hno ⟨v, hv, hrow, j3, hB⟩ hlen
    have hc := hv.cell
    gi_wp2_with (gi_at_builtin; refine wpListIn_append_own_at _ rfl _ _ 35 rfl w.heap.size 9 i0 (.string ⟨#[]⟩) 1 16 Tryz.underlying35 hi hz0 hz1 hz2 rfl (by decide) _ _ _ rfl (hrow.alloc _) ⟨W.heap.size, 0, none⟩ 1 1 [.string x] rfl rfl (cell_one_new _ _ _) (by simp [Value.oneCell']) (by simp only [maxLen]; omega) (by omega) (by have := hB.size; simp; omega) ?_; intro v' w1 hown' hgrow _ hat; obtain ⟨g', cap', rfl⟩ := ownsRow_succ hown'; obtain ⟨hv1, hv2, hr2, hk2, hb2⟩ := hv.appended (by decide) hrow hB.size (Nat.le_refl _) hown' hgrow; have hc1 := hv1.cell; have hf1 := hv1.frozen)
    have hO : Chg O1 W (w1.setCell ⟨w.heap.size, 0, none⟩ (.slice (some ⟨g', 0, none⟩) (pre.length + 1) cap')) :=
      ((Chg.alloc W _ O1).trans (Chg.grown hgrow fun r e => (j3 r).2 (.inr e))).trans (Chg.setCell w1 _ _ ((j3 _).2 (.inl rfl)))
    refine ⟨fun k => k = w.heap.size ∨ (Value.slice (some ⟨g', 0, none⟩) (pre.length + 1) cap').ownBlock = some k, ⟨_, hv2, by simpa using hr2, fun k => Iff.rfl, hB.trans hb2⟩, hO, fun k hk => ?_⟩
    rcases hk with h | h
    · exact .inl ((j3 k).2 (.inl h))
    · rcases hat with h2 | h2
      · exact .inl ((j3 k).2 (.inr (h2.symm.trans h)))
      · right
        have := h2.symm.trans h
        simp only [Option.some.injEq] at this
        rw [World.size_alloc] at this
        omega
  case done =>
    rintro D xs W' O1 eD hD hS ⟨v, j1, j2, j3, j4⟩ hK
    have hc := j1.cell
    subst hS
    gi_wp2
    refine ⟨by simp, .inl ⟨_, _, rfl, run_takeDeferred hK, ?_⟩⟩
    exact ⟨_, results_tmp rfl _ _ _, v, rfl, (Chg.putObj W' D (.deferred none) (X := fun k => k = D) rfl).ownsRow j2 (fun g hg h => hD g ((j3 g).2 (.inr hg)) h), j4.trans ((Chg.putObj W' D (.deferred none) (X := fun k => k = D) rfl).below (fun k hk h => by omega) j4.size)⟩
  case stop =>
    rintro D c pre W' O1 eD hD hS h hK
    exact h.elim
theorem collect43 (b0 : Nat) (s : ByteArray) (hs : s.size ≤ 1000000) (hN : (parts s).length ≤ 1000001) (w : World) (hb0 : Boxed w b0 9 (.string s)) :
    Calls Tryz.prog 43 #[.func (.func 76) #[] #[.pointer (some ⟨b0, 0, none⟩)]] w fun e W' => ∃ v, e = .returned v ∧ W'.ownsRow w.heap.size 9 1 v (lines (parts s)).length ((lines (parts s)).map Value.string) ∧ Below w.heap.size w W' := by
  have h78 := append78 b0 s hs hN w hb0
  have e78 : ∀ args w, (callFunc 78 args).run Tryz.prog w = .ok (.enter 78 args) w := enters_of Tryz.func78 (by kernel_rfl) rfl
  go_enter Tryz.func43, Tryz.ntmps43
  go_wp2_with (go_at_fn 78; refine h78.mono ?_; rintro e w' ⟨v, rfl, hv, hB⟩)
  go_ret
  exact ⟨v, rfl, hv, hB⟩
end Go.Proofs.YtnnhijfbdkokkaaGreatDoor
