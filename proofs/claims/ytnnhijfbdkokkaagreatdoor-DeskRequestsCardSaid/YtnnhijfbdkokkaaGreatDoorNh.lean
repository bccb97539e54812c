/- DeskRequests: the walk. No condition. -/
import Derived.Test.YtnnhijfbdkokkaaGreatDoorNg
import Derived.Test.YtnnhijfbdkokkaaGreatDoorSj
import Derived.Test.YtnnhijfbdkokkaaGreatDoorNa
namespace Go.Proofs.YtnnhijfbdkokkaaGreatDoor
open Go Go.RowKit Go.Shelf Go.Maps
attribute [local go_sem] Oper.semAt_some

theorem equal42 {B1 B2 n : Nat} {v1 v2 : Value} {xs : List ByteArray} (w : World) (hn : xs.length = n) (hbig : n ≤ 9223372036854775807) (h1 : w.ownsRow B1 9 1 v1 n (xs.map Value.string)) (h2 : w.ownsRow B2 9 1 v2 n (xs.map Value.string)) :
    Calls Tryz.prog 42 #[v1, v2] w fun e w' => e = .returned (.bool true) ∧ ∃ q, w' = w.drewN q := by
  subst hn
  rcases Nat.eq_zero_or_pos xs.length with h0 | h0
  · have form : ∀ {B : Nat} {v : Value}, w.ownsRow B 9 1 v xs.length (xs.map Value.string) → ∃ a c, v = .slice a 0 c := fun h => by
      rcases h.2 with ⟨rfl, _⟩ | ⟨g, cap, _, rfl, _⟩
      · exact ⟨_, _, rfl⟩
      · exact ⟨_, _, by rw [h0]⟩
    obtain ⟨a1, c1, rfl⟩ := form h1
    obtain ⟨a2, c2, rfl⟩ := form h2
    exact (Tryz.slices_Equal_string_empty a1 a2 c1 0 c2 w (by omega)).mono fun e w' ⟨h, h'⟩ => ⟨by rw [h]; rfl, 0, by rw [h']; rfl⟩
  · have form : ∀ {B : Nat} {v : Value}, w.ownsRow B 9 1 v xs.length (xs.map Value.string) → ∃ g c, v = .slice (some ⟨g, 0, none⟩) xs.length c ∧ ∀ j, j < xs.length → w.cell? ⟨g, 0 + j, none⟩ = some (.string (xs.getD j ByteArray.empty)) := fun h => by
      rcases h.2 with ⟨_, h3⟩ | ⟨g, cap, cur, rfl, _, hg, _, _, _, ht⟩
      · omega
      · refine ⟨g, cap, rfl, fun j hj => ?_⟩
        have hc : w.cell? ⟨g, 0 + j, none⟩ = cur[j]? := by simp [World.cell?, hg]
        rw [hc, ← Array.getElem?_toList]
        have := congrArg (fun l => l[j]?) ht
        simp only [List.getElem?_take, List.getElem?_map] at this
        rw [if_pos (by omega)] at this
        rw [this, List.getD, List.getElem?_eq_getElem hj]; rfl
    obtain ⟨g1, c1, rfl, k1⟩ := form h1
    obtain ⟨g2, c2, rfl, k2⟩ := form h2
    exact (Tryz.slices_Equal_string g1 0 xs.length c1 g2 0 xs.length c2 xs xs w (Nat.le_refl _) (Nat.le_refl _) hbig hbig k1 k2).mono fun e w' ⟨h, h'⟩ => ⟨by rw [h]; simp, h'⟩
theorem below_app {A B : World} {n0 n : Nat} {v : Value} {xs : List Value} {tmp : Obj} (hrow : A.ownsRow n0 9 1 v n xs) (hn0 : n0 ≤ A.heap.size) (hgrow : (A.alloc tmp).grownBy B v.ownBlock) : Below n0 A B :=
  ((Below.refl n0 A).alloc hn0 tmp).grown hgrow (by simp; omega) fun j ej => by
    rcases hrow.2 with ⟨rfl, _⟩ | ⟨g, cap, cur, rfl, hb, _, _⟩
    · simp [Value.ownBlock] at ej
    · obtain rfl : g = j := by simpa [Value.ownBlock] using ej
      exact hb
theorem parts_len (s : ByteArray) : (parts s).length ≤ s.size + 1 := by
  unfold parts
  rw [Lib.splitB_all nl (by decide) 0 _ s rfl]
  have := Lib.countB_le nl (by decide) s.size s (Nat.le_refl _)
  omega
theorem chg_drew (w : World) (q : Nat) (X : Nat → Prop) : Chg X w (w.drewN q) := ⟨rfl, rfl, rfl, Nat.le_refl _, fun _ _ _ => rfl⟩

set_option maxRecDepth 100000 in
set_option maxHeartbeats 4000000 in
theorem desk_calls (s : ByteArray) (m : Int) (w : World) (h40 : Calls Tryz.prog 40 #[] w fun e w' => e = .returned (.bool true) ∧ Below w.heap.size w w') (hm : w.cell? ⟨5, 0, none⟩ = some (.int .i64 m)) :
    Calls Tryz.prog 13 #[.string s] w fun e w' => e = .returned (.bool true) ∧ Below w.heap.size w w' := by
  obtain ⟨i0, hi, hz0, hz1, hz2⟩ := info_parts info9
  refine (callsIn_wide (n := 10)).1 ?_
  refine callsIn_of_wp Tryz.func13 rfl trivial ?_ rfl
  simp only [Tryz.ntmps13, List.size_toArray, List.length_cons, List.length_nil, Nat.reduceAdd, Nat.reduceSub, Array.replicate_succ, Array.replicate_zero, List.push_toArray, List.append_toArray, List.nil_append, List.cons_append]
  by_cases hbig : 1000 < s.size
  · gi_wp2_with (refine ⟨trivial, ?_⟩; gi_at_call 40; refine (callsIn_wide.2 h40).mono ?_; rintro e w1 ⟨rfl, hB1⟩)
    refine bodyPost_ret (results_tmp rfl _ _ _) rfl ?_
    exact ⟨rfl, hB1⟩
  have hN : (parts s).length ≤ 1000001 := by have := parts_len s; omega
  have hm1 : ∀ w1, Below w.heap.size w w1 → w1.cell? ⟨5, 0, none⟩ = some (.int .i64 m) := fun w1 hB => by
    rw [hB.cell (p := ⟨5, 0, none⟩) (Lib.lt_of_cell hm)]; exact hm
  gi_wp2_with (first
    | (refine ⟨trivial, ?_⟩; gi_at_call 40; refine (callsIn_wide.2 h40).mono ?_; rintro e w1 ⟨rfl, hB1⟩; clear h40)
    | (refine ⟨trivial, ?_⟩; gi_at_call 21; refine (callsIn_wide.2 (Tryz.strings_Split s ⟨#[10]⟩ m _ (by omega) (hm1 _ hB1) (by decide))).mono ?_; rintro e w2 ⟨rfl, rfl⟩; rw [show Lib.countB s ⟨#[10]⟩ + 1 = (parts s).length from (Lib.splitB_all nl (by decide) 0 _ s rfl).symm]))
  obtain ⟨W2, hW2⟩ : ∃ W2, w1.alloc (.cells ((parts s).map Value.string).toArray 9) = W2 := ⟨_, rfl⟩
  have hcell : ∀ (j : Nat) x, (parts s)[j]? = some x → W2.cell? ⟨w1.heap.size, j, none⟩ = some (.string x) := fun j x hj => by
    rw [← hW2]
    have h := World.alloc_heap_new w1 (.cells ((parts s).map Value.string).toArray 9)
    unfold World.cell?
    rw [h]
    simp [hj]
  have hsz2 : W2.heap.size = w1.heap.size + 1 := by rw [← hW2]; simp
  have hB2 : Below w.heap.size w W2 := by rw [← hW2]; exact hB1.alloc hB1.size _
  have hBW : Below w1.heap.size w1 W2 := by rw [← hW2]; exact (Below.refl _ _).alloc (Nat.le_refl _) _
  show Code.wpIn Fence.wide 10 Tryz.prog _ _ _ (w1.alloc (.cells ((parts s).map Value.string).toArray 9))
  rw [hW2]
  gi_loopw [3, 15] (fun v i wr => ∃ k : Nat, k ≤ (parts s).length ∧ i = .int .i64 k ∧ wr.ownsRow W2.heap.size 9 1 v (lines ((parts s).take k)).length ((lines ((parts s).take k)).map Value.string) ∧ Below W2.heap.size W2 wr)
    (fun _ i _ => (parts s).length - (intOf i).toNat)
  case atStart => exact ⟨0, Nat.zero_le _, rfl, World.ownsRow_nil _ _ _ _, Below.refl _ _⟩
  case round =>
    obtain ⟨k, hk, rfl, hrow, hB⟩ := hrel
    by_cases hkn : k < (parts s).length
    · obtain ⟨x, hx⟩ : ∃ x, (parts s)[k]? = some x := ⟨_, List.getElem?_eq_getElem hkn⟩
      have hc : wr.cell? ⟨w1.heap.size, k, none⟩ = some (.string x) := by
        rw [hB.cell (p := ⟨w1.heap.size, k, none⟩) (by show w1.heap.size < _; omega)]
        exact hcell k x hx
      have htake : (parts s).take (k + 1) = (parts s).take k ++ [x] := by rw [List.take_add_one, hx]; rfl
      have hll : (lines ((parts s).take k)).length ≤ 1000001 := Nat.le_trans (List.length_filter_le _ _) (by rw [List.length_take]; omega)
      cases he : x.toList.isEmpty with
      | true =>
        gi_wp2
        exact ⟨⟨k + 1, by omega, by go_num, by rw [htake, lines_miss _ he]; exact hrow, hB⟩, by simp [intOf]; omega⟩
      | false =>
        gi_wp2_with (gi_at_builtin; refine wpListIn_append_own_at _ rfl _ _ 35 rfl W2.heap.size 9 i0 (.string ⟨#[]⟩) 1 16 Tryz.underlying35 hi hz0 hz1 hz2 rfl (by decide) _ _ _ rfl (hrow.alloc _) ⟨wr.heap.size, 0, none⟩ 1 1 [.string x] rfl rfl (cell_one_new _ _ _) (by simp [Value.oneCell']) (by simp only [maxLen]; omega) (by omega) (by have := hB.size; simp; omega) ?_; intro v' w3 hown' hgrow _ _)
        exact ⟨⟨k + 1, by omega, by go_num, by rw [htake, lines_hit _ he]; simpa using hown', hB.trans (below_app hrow hB.size hgrow)⟩, by simp [intOf]; omega⟩
    · have hke : k = (parts s).length := by omega
      subst hke
      rw [List.take_length] at hrow
      have hll : (lines (parts s)).length ≤ 1000001 := Nat.le_trans (List.length_filter_le _ _) hN
      gi_wp2_with fail
      refine ⟨trivial, ?_⟩
      refine (callsIn_wide.2 (requests41 s _)).mono ?_
      rintro e w4 ⟨rfl, rfl⟩
      have bx := Boxed.new wr 9 (.string s)
      have hrow5 := hrow.alloc (.cells #[.string s] 9)
      obtain ⟨W5, hW5⟩ : ∃ W5, wr.alloc (.cells #[.string s] 9) = W5 := ⟨_, rfl⟩
      have hsz5 : W5.heap.size = wr.heap.size + 1 := by rw [← hW5]; simp
      have hB5 : Below W2.heap.size W2 W5 := by rw [← hW5]; exact hB.alloc hB.size _
      rw [hW5] at bx hrow5 ⊢
      gi_wp2_with fail
      refine ⟨trivial, ?_⟩
      refine (callsIn_wide.2 (collect43 wr.heap.size s (by omega) hN _ bx)).mono ?_
      rintro e w6 ⟨v6, rfl, hv6, hB6⟩
      have hrow6 := (Chg.of_below hB6).ownsRow hrow5 (fun g hg h => by have := (hrow5.lt g hg).2; omega)
      have bx6 := (Chg.of_below hB6).boxed bx (fun h => by omega)
      have hB6' : Below W2.heap.size W2 w6 := hB5.trans (hB6.mono hB5.size)
      gi_wp2_with fail
      refine ⟨trivial, ?_⟩
      refine (callsIn_wide.2 (equal42 w6 rfl (by omega) hv6 hrow6)).mono ?_
      rintro e w7 ⟨rfl, q, hq⟩
      have bx7 : Boxed w7 wr.heap.size 9 (.string s) := by rw [hq]; exact bx6
      have hrow7 := (chg_drew w6 q fun _ => False).ownsRow hrow6 (fun g hg h => h)
      rw [← hq] at hrow7
      have hB7 : Below W2.heap.size W2 w7 := by rw [hq]; exact hB6'.trans ((chg_drew w6 q fun _ => False).below (fun _ _ h => h) hB6'.size)
      have hsz7 : w7.heap.size = w6.heap.size := by rw [hq]; rfl
      clear hq hrow hrow5 hrow6 bx bx6
      gi_wp2_with fail
      refine ⟨trivial, ?_⟩
      refine (callsIn_wide.2 (collect43 wr.heap.size s (by omega) hN _ bx7)).mono ?_
      rintro e w8 ⟨v8, rfl, hv8, hB8⟩
      have hrow8 := (Chg.of_below hB8).ownsRow hrow7 (fun g hg h => by have := (hrow7.lt g hg).2; omega)
      have hB8' : Below W2.heap.size W2 w8 := hB7.trans (hB8.mono hB7.size)
      gi_wp2_with fail
      refine ⟨trivial, ?_⟩
      refine (callsIn_wide.2 (equal42 w8 rfl (by omega) hv8 hrow8)).mono ?_
      rintro e w9 ⟨rfl, q', hq'⟩
      have hB9 : Below W2.heap.size W2 w9 := by rw [hq']; exact hB8'.trans ((chg_drew w8 q' fun _ => False).below (fun _ _ h => h) hB8'.size)
      clear hq'
      gi_wp2
      refine bodyPost_ret (results_tmp rfl _ _ _) rfl ?_
      exact ⟨rfl, hB2.trans (hB9.mono hB2.size)⟩
end Go.Proofs.YtnnhijfbdkokkaaGreatDoor
