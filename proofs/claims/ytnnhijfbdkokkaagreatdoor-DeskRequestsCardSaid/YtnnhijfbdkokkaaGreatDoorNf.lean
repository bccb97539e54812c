/- desk.Requests: an iterator over a text's lines that have bytes. No condition. -/
import Derived.Test.YtnnhijfbdkokkaaGreatDoorNe
namespace Go.Proofs.YtnnhijfbdkokkaaGreatDoor
open Go Go.RowKit Go.Shelf
attribute [local go_sem] Oper.semAt_some

theorem split109 (s sep : ByteArray) (w : World) : Calls Tryz.prog 109 #[.string s, .string sep, .int .i64 0] w fun e w' =>
    e = .returned (.func (.func 169) #[] #[.pointer (some ⟨w.heap.size + 1, 0, none⟩), .pointer (some ⟨w.heap.size, 0, none⟩), .pointer (some ⟨w.heap.size + 2, 0, none⟩)]) ∧ w' = ((w.alloc (.cells #[.string s] 9)).alloc (.cells #[.string sep] 9)).alloc (.cells #[.int .i64 0] 3) := by
  go_enter Tryz.func109, Tryz.ntmps109
  go_wp2
  go_ret
  exact ⟨by simp, rfl⟩
theorem split77 (s sep : ByteArray) (w : World) : Calls Tryz.prog 77 #[.string s, .string sep] w fun e w' =>
    e = .returned (.func (.func 169) #[] #[.pointer (some ⟨w.heap.size + 1, 0, none⟩), .pointer (some ⟨w.heap.size, 0, none⟩), .pointer (some ⟨w.heap.size + 2, 0, none⟩)]) ∧ w' = ((w.alloc (.cells #[.string s] 9)).alloc (.cells #[.string sep] 9)).alloc (.cells #[.int .i64 0] 3) := by
  go_enter Tryz.func77, Tryz.ntmps77
  have e109 : ∀ args w, (callFunc 109 args).run Tryz.prog w = .ok (.enter 109 args) w := enters_of Tryz.func109 (by kernel_rfl) rfl
  go_wp2_with (go_at_fn 109; refine (split109 _ _ _).mono ?_; rintro e w' ⟨rfl, rfl⟩)
  go_ret
  exact ⟨rfl, rfl⟩
theorem requests41 (s : ByteArray) (w : World) : Calls Tryz.prog 41 #[.string s] w fun e w' => e = .returned (.func (.func 76) #[] #[.pointer (some ⟨w.heap.size, 0, none⟩)]) ∧ w' = w.alloc (.cells #[.string s] 9) := by
  go_enter Tryz.func41, Tryz.ntmps41
  go_wp2
  go_ret
  exact ⟨rfl, rfl⟩
def full (x : ByteArray) : Bool := !x.toList.isEmpty
def lines (l : List ByteArray) : List ByteArray := l.filter full
theorem lines_miss (pre : List ByteArray) {x : ByteArray} (h : x.toList.isEmpty = true) : lines (pre ++ [x]) = lines pre := by
  have : full x = false := by unfold full; rw [h]; rfl
  unfold lines; rw [List.filter_append]; simp [this]
theorem lines_hit (pre : List ByteArray) {x : ByteArray} (h : x.toList.isEmpty = false) : lines (pre ++ [x]) = lines pre ++ [x] := by
  have : full x = true := by unfold full; rw [h]; rfl
  unfold lines; rw [List.filter_append]; simp [this]
theorem RoundIn_any {m m' l' : Nat} {P : Program} {l : Nat} {f : FuncId} {tmps : Array Value} {assign body : Code} {w : World} {R : Ending → World → Prop} (h : RoundIn Fence.wide m P l f tmps assign body w R) : RoundIn (Fence.wide.inRound l') m' P l f tmps assign body w R :=
  ⟨h.1, fun c cs _ => h.2 c cs (fun d hd => by cases hd)⟩

set_option maxRecDepth 100000 in
set_option maxHeartbeats 2000000 in
theorem req_iter (n : Nat) (hn : 3 ≤ n) (b0 base : Nat) (s : ByteArray) (hs : s.size ≤ 1000000) :
    IterO Fence.wide n Tryz.prog 76 #[.pointer (some ⟨b0, 0, none⟩)] Value.string (fun _ => False) (fun W => Boxed W b0 9 (.string s)) (fun xs => xs = lines (parts s)) (fun _ => True) (parts s).length base := by
  intro l J Jx W O c0 hb hC hO hJ hJx hY h0
  refine callsIn_of_wp_marks Tryz.func76 rfl trivial ?_ rfl
  simp only [Tryz.ntmps76, List.size_toArray, List.length_cons, List.length_nil, Nat.reduceAdd, Nat.reduceSub, Array.replicate_succ, Array.replicate_zero, List.push_toArray, List.append_toArray, List.nil_append, List.cons_append]
  have h1 : 1 ≤ n := by omega
  have hk0 := (c0.alloc (.cells #[.func (.yield l) #[] #[]] 53)).cell
  gi_wp2_with (refine ⟨trivial, ?_⟩; gi_at_call 77; refine (callsIn_wide.2 (split77 _ _ _)).mono ?_; rintro e w' ⟨rfl, rfl⟩)
  obtain ⟨W4, hW4⟩ : ∃ W4, (((W.alloc (.cells #[.func (.yield l) #[] #[]] 53)).alloc (.cells #[.string s] 9)).alloc (.cells #[.string nl] 9)).alloc (.cells #[.int .i64 0] 3) = W4 := ⟨_, rfl⟩
  have q0 : Boxed W4 W.heap.size 53 (.func (.yield l) #[] #[]) := by rw [← hW4]; exact (((Boxed.new W 53 _).alloc _).alloc _).alloc _
  have q1 : Boxed W4 (W.heap.size + 1) 9 (.string s) := by
    have := ((Boxed.new (W.alloc (.cells #[.func (.yield l) #[] #[]] 53)) 9 (.string s)).alloc (.cells #[.string nl] 9)).alloc (.cells #[.int .i64 0] 3)
    rw [World.size_alloc] at this
    rw [← hW4]; exact this
  have q2 : Boxed W4 (W.heap.size + 1 + 1) 9 (.string nl) := by
    have := (Boxed.new ((W.alloc (.cells #[.func (.yield l) #[] #[]] 53)).alloc (.cells #[.string s] 9)) 9 (.string nl)).alloc (.cells #[.int .i64 0] 3)
    rw [World.size_alloc, World.size_alloc] at this
    rw [← hW4]; exact this
  have q3 : Boxed W4 (W.heap.size + 1 + 2) 3 (.int .i64 0) := by
    have := Boxed.new (((W.alloc (.cells #[.func (.yield l) #[] #[]] 53)).alloc (.cells #[.string s] 9)).alloc (.cells #[.string nl] 9)) 3 (.int .i64 0)
    rw [World.size_alloc, World.size_alloc, World.size_alloc] at this
    rw [← hW4]; exact this
  have hsz : W4.heap.size = W.heap.size + 4 := by rw [← hW4]; simp
  have hchg : ∀ X, Chg X W W4 := fun X => by rw [← hW4]; exact (((Chg.alloc W _ X).trans (Chg.alloc _ _ X)).trans (Chg.alloc _ _ X)).trans (Chg.alloc _ _ X)
  show Code.wpIn Fence.wide n Tryz.prog _ _ _ ((((W.alloc (.cells #[.func (.yield l) #[] #[]] 53)).alloc (.cells #[.string s] 9)).alloc (.cells #[.string nl] 9)).alloc (.cells #[.int .i64 0] 3))
  rw [hW4]
  clear hk0
  refine wpIn_rangeFunc_O rfl h1 (gf := 169) (lb := #[.pointer (some ⟨W.heap.size + 1 + 1, 0, none⟩), .pointer (some ⟨W.heap.size + 1, 0, none⟩), .pointer (some ⟨W.heap.size + 1 + 2, 0, none⟩)]) rfl trivial (enters_of Tryz.func169 (by kernel_rfl) rfl)
    (split_iter (n - 1) (by omega) (W.heap.size + 1) (W.heap.size + 1 + 1) (W.heap.size + 1 + 2) base s hs) rfl
    (fun W5 h5 => ⟨by omega, by omega, (h5.block _ q1.lt (fun h => h)).trans q1, (h5.block _ q2.lt (fun h => h)).trans q2, (h5.block _ q3.lt (fun h => h)).trans q3⟩) (by omega)
    (fun O1 pre W' => ∃ O', J O' (lines pre) W' ∧ (∀ k, O1 k ↔ (O' k ∨ k = W.heap.size)) ∧ ¬ O' W.heap.size ∧ Boxed W' W.heap.size 53 (.func (.yield l) #[] #[]))
    (fun c O1 pre W' => c = .ret ∧ ∃ O' pre', Jx O' pre' W' ∧ (∀ k, O1 k ↔ (O' k ∨ k = W.heap.size)))
    (fun k => O k ∨ k = W.heap.size) (fun k hk => by rcases hk with h | h <;> first | (have := hO k h; omega) | omega)
    (fun k hk => by
      have : k = W.heap.size + 1 ∨ k = W.heap.size + 1 + 1 ∨ k = W.heap.size + 1 + 2 := hk
      refine ⟨by omega, fun h => ?_, by omega⟩
      rcases h with h | h <;> first | (have := hO k h; omega) | omega)
    (fun O1 pre A B ⟨O', j1, j2, j3, j4⟩ hc => ⟨O', hJ _ _ _ _ j1 (hc.more fun k _ h => ⟨h.1, fun hk => h.2 ((j2 k).2 (.inl hk))⟩), j2, j3, (hc.block _ j4.lt (fun h => h.2 ((j2 _).2 (.inr rfl)))).trans j4⟩)
    (fun c O1 pre A B ⟨e, O', pre', j1, j2⟩ hc => ⟨e, O', pre', hJx _ _ _ _ j1 (hc.more fun k _ h => ⟨h.1, fun hk => h.2 ((j2 k).2 (.inl hk))⟩), j2⟩)
    ⟨O, hJ _ _ _ _ h0 (hchg _), fun _ => Iff.rfl, fun h => by have := hO _ h; omega, q0⟩
    (fun x => { tmps := #[.func (.yield l) #[] #[], .pointer (some ⟨b0, 0, none⟩), .pointer (some ⟨W.heap.size, 0, none⟩), .string x, .string s, .func (.func 169) #[] #[.pointer (some ⟨W.heap.size + 1 + 1, 0, none⟩), .pointer (some ⟨W.heap.size + 1, 0, none⟩), .pointer (some ⟨W.heap.size + 1 + 2, 0, none⟩)], .string x, undef, undef, undef, undef, undef, undef, undef, undef], defers := [] }) ?assign ?body ?done ?stop
  case assign =>
    intro l' x W' K hK
    gi_wp2
    exact hK
  case body =>
    rintro l' pre x W' O1 el hl' hno ⟨O', j1, j2, j3, j4⟩ hlen
    have k0 := j4.cell
    have h2 : 1 ≤ n - 1 - 1 := by omega
    cases hx : x.toList.isEmpty with
    | true =>
      gi_wp2
      refine ⟨fun _ h => (by cases h), ?_⟩
      gi_wp2
      exact ⟨O1, ⟨O', by rw [lines_miss _ hx]; exact j1, j2, j3, j4⟩, Rnd.refl _ _⟩
    | false =>
      obtain ⟨fn, tmps, assign, body, hy, hR0⟩ := hY (lines pre) x W' O' j1 (Nat.lt_of_le_of_lt (List.length_filter_le _ _) hlen)
      have hR : RoundIn (Fence.wide.inRound l') (n - 1 - 1 - 1) Tryz.prog l fn tmps assign body W' _ := RoundIn_any hR0
      gi_wp2
      refine hR.mono ?_
      rintro e W3 (⟨rfl, O2, hJ3, hr3⟩ | ⟨rfl, O2, hJ3, hr3⟩)
      · have m1 : ¬ O2 W.heap.size := fun h => by have := j4.lt; rcases hr3.2 _ h with h | h <;> first | exact j3 h | omega
        gi_wp2
        exact ⟨fun k => O2 k ∨ k = W.heap.size, ⟨O2, by rw [lines_hit _ hx]; exact hJ3, fun _ => Iff.rfl, m1, (hr3.1.block _ j4.lt j3).trans j4⟩, hr3.1.more fun k _ h => (j2 k).2 (.inl h), fun k hk => by
          rcases hk with h | h
          · exact (hr3.2 k h).imp (fun h => (j2 k).2 (.inl h)) id
          · exact .inl ((j2 k).2 (.inr h))⟩
      · gi_wp2
        exact ⟨fun k => O2 k ∨ k = W.heap.size, ⟨rfl, O2, _, hJ3, fun _ => Iff.rfl⟩, hr3.1.more fun k _ h => (j2 k).2 (.inl h), fun k hk => by
          rcases hk with h | h
          · exact (hr3.2 k h).imp (fun h => (j2 k).2 (.inl h)) id
          · exact .inl ((j2 k).2 (.inr h))⟩
  case done =>
    rintro D xs W' O1 eD hD hS ⟨O', j1, j2, j3, j4⟩ hK
    gi_wp2
    refine ⟨by simp, .inl ⟨_, _, rfl, run_takeDeferred hK, ?_⟩⟩
    refine ⟨_, results_none rfl _ _ _, ⟨_, rfl⟩, .inl ⟨_, O', by rw [hS], hJ _ _ _ _ j1 (Chg.putObj _ _ _ ⟨by omega, fun h => hD D ((j2 D).2 (.inl h)) rfl⟩)⟩⟩
  case stop =>
    rintro D c pre W' O1 eD hD hS ⟨ec, O', pre', j1, j2⟩ hK
    subst ec
    gi_wp2
    refine ⟨by simp, .inl ⟨_, _, rfl, run_takeDeferred hK, ?_⟩⟩
    exact ⟨_, results_none rfl _ _ _, ⟨_, rfl⟩, .inr ⟨pre', O', trivial, hJx _ _ _ _ j1 (Chg.putObj _ _ _ ⟨by omega, fun h => hD D ((j2 D).2 (.inl h)) rfl⟩)⟩⟩
end Go.Proofs.YtnnhijfbdkokkaaGreatDoor
