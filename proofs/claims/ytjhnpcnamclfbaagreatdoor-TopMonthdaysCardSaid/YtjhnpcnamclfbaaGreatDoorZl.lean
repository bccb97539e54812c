/- The days of a period. Periods, one behind the other; a preview. Known calls that hand back memory, for walks. What a preview of periods that touch lists, each one's days told by a test: the first ones of all. No condition. -/
import Derived.Test.YtjhnpcnamclfbaaGreatDoorZh
import Derived.Laws.AppendOwn
import Derived.Maps.AppendAt
import Derived.OwnWalk
/-! The days of a period. -/
namespace Go.Proofs.YtjhnpcnamclfbaaGreatDoor
open Go Go.Eng Go.RowKit

def dayV (n : Nat) : Value := .int .i64 (n : Int)
theorem infoDay : (Tryz.prog.info? 26).map (fun i => (i.zero, i.size, i.bytes)) = some (some (.int .i64 0), 1, 8) := by kernel_rfl
theorem own_below {base n : Nat} {e : TypeId} {v : Value} {xs : List Value} {W W' : World} (h : W.ownsRow base e 1 v n xs) (hb : Below W.heap.size W W') : W'.ownsRow base e 1 v n xs := by
  obtain ⟨hl, h | ⟨g, cap, cur, h1, h2, h3, h4, h5, h6, h7⟩⟩ := h
  · exact ⟨hl, .inl h⟩
  · exact ⟨hl, .inr ⟨g, cap, cur, h1, h2, (hb.block g (Array.getElem?_eq_some_iff.1 h3).1).trans h3, h4, h5, h6, h7⟩⟩
theorem own_cellZ {w : World} {base : Nat} {e : TypeId} {v : Value} {n : Nat} {xs : List Value} (h : w.ownsRow base e 1 v n xs) : (v = .slice none 0 0 ∧ n = 0 ∧ xs = []) ∨ ∃ g cap, v = .slice (some ⟨g, 0, none⟩) n cap ∧ base ≤ g ∧ g < w.heap.size ∧ ∀ (j : Nat) u, xs[j]? = some u → w.cell? ⟨g, j, none⟩ = some u := by
  obtain ⟨hl, h | ⟨g, cap, cur, rfl, h1, h2, _, _, _, h6⟩⟩ := h
  · exact .inl ⟨h.1, h.2, List.eq_nil_of_length_eq_zero (by rw [hl, h.2])⟩
  · refine .inr ⟨g, cap, rfl, h1, (Array.getElem?_eq_some_iff.1 h2).1, fun j u hj => ?_⟩
    rw [← h6, List.getElem?_take] at hj
    split at hj
    · simp only [World.cell?, h2]
      simpa using hj
    · cases hj
theorem own_base {w : World} {base base2 : Nat} {e : TypeId} {v : Value} {n : Nat} {xs : List Value} (h : w.ownsRow base e 1 v n xs) (hb : base2 ≤ base) : w.ownsRow base2 e 1 v n xs := by
  obtain ⟨hl, h | ⟨g, cap, cur, h1, h2, rest⟩⟩ := h
  · exact ⟨hl, .inl h⟩
  · exact ⟨hl, .inr ⟨g, cap, cur, h1, Nat.le_trans hb h2, rest⟩⟩
set_option maxRecDepth 100000 in
set_option maxHeartbeats 4000000 in
theorem in_calls (r : RuleD) (hr : RuleOk r) {s a b : Nat} (s1 : 1 ≤ s) (s2 : s ≤ lastN) (a1 : 1 ≤ a) (ab : a ≤ b) (b2 : b ≤ lastN) (v : Value) {w : World} (hw : Vars gl w) (hv : RuleV w v r) :
    Calls Tryz.prog 139 #[v, .int .i64 (s : Int), .agg #[.int .i64 (a : Int), .int .i64 (b : Int)]] w fun e w' => ∃ u, e = .returned u ∧ w'.ownsRow w.heap.size 26 1 u (inN r s (a, b)).length ((inN r s (a, b)).map dayV) ∧ Below w.heap.size w w' := by
  have b2' : b ≤ 3652059 := b2
  have tS := Tryz.underlying209; have aS := Tryz.isAgg209; have zS := Tryz.sizeOf209; have uS := run_underlying Tryz.underlying209
  have tR := Tryz.underlying124; have aR := Tryz.isAgg124; have zR := Tryz.sizeOf124; have uR := run_underlying Tryz.underlying124
  obtain ⟨i0, hi, hz0, hz1, hz2⟩ := info_parts infoDay
  have hLt : ∀ (n : Nat) W, 1 ≤ n → n ≤ lastN → Below w.heap.size w W → Calls Tryz.prog 208 #[v, .int .i64 (s : Int), .int .i64 (n : Int)] W fun e w' => e = .returned (.bool (letsN r s n)) ∧ Below W.heap.size W w' := fun n W n1 n2 hW => lets_calls r hr s1 s2 n1 n2 v (Varsb hw hW) (ruleV_below hv hW)
  obtain ⟨sm, sd, sw, sp, rfl, hm, hd, hwd, hsp⟩ := hv
  obtain ⟨ap, cp, rfl⟩ := intsAt_form hsp
  have hlp := hr.pos
  obtain ⟨cs, hcs⟩ : ∃ cs : Array Value, cs = #[.int .i64 r.freq, .int .i64 r.interval, .int .i64 r.count, .int .i64 r.til, sm, sd, sw, .slice ap r.pos.length cp] := ⟨_, rfl⟩
  have b0 : Below w.heap.size w ((w.alloc (.cells cs 124)).alloc (.cells #[.int .i64 (a : Int), .int .i64 (b : Int)] 209)) := ((Below.refl _ w).alloc (Nat.le_refl _) _).alloc (by simp) _
  have h8 : ((w.alloc (.cells cs 124)).alloc (.cells #[.int .i64 (a : Int), .int .i64 (b : Int)] 209)).heap[w.heap.size]? = some (.cells cs 124) := (Below.heap_alloc _ _ _ (by simp)).trans (World.alloc_heap_new w _)
  have h9 := Box2.new (w.alloc (.cells cs 124)) 209 (.int .i64 (a : Int)) (.int .i64 (b : Int))
  rw [World.size_alloc] at h9
  subst hcs
  have hIn0 : Hid (inN r s (a, b) = if r.pos.isEmpty then allN r s (a, b) else (allN r s (a, b)).zipIdx.filterMap fun x => if r.pos.contains ((x.2 : Int) + 1) || r.pos.contains ((x.2 : Int) - (allN r s (a, b)).length) then some x.1 else none) := hidZ rfl
  generalize inN r s (a, b) = res at hIn0 ⊢
  go_enter Tryz.func139, Tryz.ntmps139
  go_wp2
  generalize hW0 : (w.alloc (.cells #[.int .i64 r.freq, .int .i64 r.interval, .int .i64 r.count, .int .i64 r.til, sm, sd, sw, .slice ap r.pos.length cp] 124)).alloc (.cells #[.int .i64 (a : Int), .int .i64 (b : Int)] 209) = W0 at b0 h8 h9 ⊢
  obtain ⟨cs, hcs⟩ : ∃ cs : Array Value, cs = #[.int .i64 r.freq, .int .i64 r.interval, .int .i64 r.count, .int .i64 r.til, sm, sd, sw, .slice ap r.pos.length cp] := ⟨_, rfl⟩
  rw [← hcs] at h8
  have bt : ∀ {W : World}, Below W0.heap.size W0 W → Below w.heap.size w W := fun h => b0.trans (h.mono b0.size)
  have lt8 : w.heap.size < W0.heap.size := (Array.getElem?_eq_some_iff.1 h8).1
  have kc : ∀ {W : World}, Below W0.heap.size W0 W → ∀ j u, cs[j]? = some u → W.cell? ⟨w.heap.size, j, none⟩ = some u := fun {W} h j u hj => by
    unfold World.cell?
    rw [h.block _ lt8, h8]
    exact hj
  have ks : ∀ {W : World}, Below W0.heap.size W0 W → W.cell? ⟨w.heap.size + 1, 1, none⟩ = some (.int .i64 (b : Int)) := fun {W} h => (h.cell (p := ⟨w.heap.size + 1, 1, none⟩) h9.lt).trans h9.c1
  clear hW0
  have hcs' : cs = #[.int .i64 r.freq, .int .i64 r.interval, .int .i64 r.count, .int .i64 r.til, sm, sd, sw, .slice ap r.pos.length cp] := hcs
  have HCS := hidZ hcs'
  clear hcs hcs'
  obtain ⟨L, hL⟩ : ∃ L : Nat → List Nat, ∀ k, L k = (List.range' a k).filter (letsN r s) := ⟨_, fun _ => rfl⟩
  have hLl : ∀ k, (L k).length ≤ k := fun k => by rw [hL]; exact Nat.le_trans (List.length_filter_le _ _) (by simp)
  have hLs : ∀ k, L (k + 1) = L k ++ (if letsN r s (a + k) then [a + k] else []) := fun k => by
    rw [hL, hL, List.range'_concat, List.filter_append]
    congr 1
    simp only [Nat.one_mul, List.filter_cons, List.filter_nil]
  have hLe : Hid (allN r s (a, b) = L (b + 1 - a)) := hidZ (by rw [hL]; rfl)
  have HLS := hidZ hLs
  have L0 : L 0 = [] := by rw [hL]; rfl
  clear hL hLs
  go_loopw [7, 9] (fun u i W => ∃ k : Nat, k ≤ b + 1 - a ∧ i = .int .i64 ((a : Int) + (k : Int)) ∧ Hid (W.ownsRow W0.heap.size 26 1 u (L k).length ((L k).map dayV)) ∧ Hid (Below W0.heap.size W0 W)) (fun _ i _ => b + 1 - (vZ i).toNat)
  case atStart => exact ⟨0, Nat.zero_le _, by simp, hidZ (by rw [L0]; exact World.ownsRow_nil _ _ _ _), hidZ (Below.refl _ _)⟩
  case round =>
    rename World => wq
    obtain ⟨k, hk, rfl, hO, hB⟩ := hrel
    have kb := ks hB.out
    by_cases hkn : k < b + 1 - a
    · have hlt := hLl k
      have i1 : (a : Int) + (k : Int) ≤ (b : Int) := by omega
      have hlet := hLt (a + k) wq (by omega) (Nat.le_trans (show a + k ≤ b by omega) b2) (bt hB.out)
      rw [show ((a + k : Nat) : Int) = (a : Int) + (k : Int) by omega] at hlet
      have hnx := HLS.out k
      have c0 := kc hB.out 0 _ (by rw [HCS.out]; rfl)
      have c1 := kc hB.out 1 _ (by rw [HCS.out]; rfl)
      have c2 := kc hB.out 2 _ (by rw [HCS.out]; rfl)
      have c3 := kc hB.out 3 _ (by rw [HCS.out]; rfl)
      have c4 := kc hB.out 4 _ (by rw [HCS.out]; rfl)
      have c5 := kc hB.out 5 _ (by rw [HCS.out]; rfl)
      have c6 := kc hB.out 6 _ (by rw [HCS.out]; rfl)
      have c7 := kc hB.out 7 _ (by rw [HCS.out]; rfl)
      generalize letsN r s (a + k) = bl at hlet hnx
      have HNX := hidZ hnx
      clear hnx
      go_wp2_with fail
      refine hlet.mono ?_
      rintro e w5 ⟨rfl, b5⟩
      have b5' := hB.out.trans (b5.mono hB.out.size)
      have hO5 := own_below hO.out b5
      cases bl with
      | false =>
        go_wp2
        exact ⟨⟨k + 1, by omega, by go_num, hidZ (by rw [HNX.out]; simpa using hO5), hidZ b5'⟩, by simp [vZ]; omega⟩
      | true =>
        go_wp2_with (at_builtin; refine wpList_append_own _ rfl _ _ 78 rfl W0.heap.size 26 i0 (.int .i64 0) 1 8 Tryz.underlying78 hi hz0 hz1 hz2 rfl (by decide) _ _ _ rfl (hO5.alloc _) ⟨w5.heap.size, 0, none⟩ 1 1 [.int .i64 ((a : Int) + (k : Int))] rfl rfl (cell_one_new w5 _ _) (by simp [Value.oneCell']) (by simp only [maxLen]; omega) (by omega) (by have := b5'.size; simp; omega) ?_; intro v' w6 hown6 hgrow6 _)
        have b6 : Below W0.heap.size W0 w6 := (b5'.alloc b5'.size _).grown hgrow6 (by have := b5'.size; simp; omega) fun j e => (hO5.lt j e).1
        exact ⟨⟨k + 1, by omega, by go_num, hidZ (by rw [HNX.out, List.map_append, List.length_append]; simpa [dayV] using hown6), hidZ b6⟩, by simp [vZ]; omega⟩
    · have hke : k = b + 1 - a := by omega
      subst hke
      have c7 := kc hB.out 7 _ (by rw [HCS.out]; rfl)
      have hC : ∀ W, Below w.heap.size w W → ∀ x, Calls Tryz.prog 209 #[.slice ap r.pos.length cp, .int .i64 x] W fun e w' => e = .returned (.bool (r.pos.contains x)) ∧ w' = W := fun W hW x => containsZ (intsAt_below hsp hW) hlp x
      have hIn : Hid (res = if r.pos.isEmpty then L (b + 1 - a) else (L (b + 1 - a)).zipIdx.filterMap fun x => if r.pos.contains ((x.2 : Int) + 1) || r.pos.contains ((x.2 : Int) - (L (b + 1 - a)).length) then some x.1 else none) := hidZ (by rw [hIn0.out, hLe.out])
      have hAl := hLl (b + 1 - a)
      have hO := hO.out
      have hBq := hB.out
      clear hIn0 hLe HLS
      generalize L (b + 1 - a) = A at hIn hAl hO ⊢
      by_cases hp0 : r.pos = []
      · have hpl : r.pos.length = 0 := by rw [hp0]; rfl
        have HV : Hid (res = A) := hidZ (by rw [hIn.out, hp0]; rfl)
        clear hC hLt hIn
        rw [hpl] at c7
        go_wp2
        exact bodyPost_ret (results_tmp rfl _ _ _) rfl ⟨_, rfl, by rw [HV.out]; exact own_base hO b0.size, bt hBq⟩
      · have hp1 : ((r.pos.length : Int) == 0) = false := by
          have : r.pos.length ≠ 0 := fun h => hp0 (List.eq_nil_of_length_eq_zero h)
          simp only [beq_eq_false_iff_ne]; omega
        have hpe : r.pos.isEmpty = false := by
          cases h : r.pos with
          | nil => exact absurd h hp0
          | cons x l => rfl
        obtain ⟨f, hf⟩ : ∃ f : Nat × Nat → Option Nat, f = fun x => if r.pos.contains ((x.2 : Int) + 1) || r.pos.contains ((x.2 : Int) - A.length) then some x.1 else none := ⟨_, rfl⟩
        have HV : Hid (res = A.zipIdx.filterMap f) := hidZ (by rw [hIn.out, hpe, hf]; rfl)
        have Hf : Hid (∀ x i, f (x, i) = if r.pos.contains ((i : Int) + 1) || r.pos.contains ((i : Int) - A.length) then some x else none) := hidZ fun x i => by rw [hf]
        clear hf hIn hpe
        have hAl4 : A.length ≤ 3652060 := by omega
        obtain ⟨ua, uc, hu⟩ : ∃ ua uc, u7 = .slice ua A.length uc := by
          rcases own_cellZ hO with ⟨e, h0, _⟩ | ⟨g, cap, e, _⟩
          · exact ⟨none, 0, by rw [e, h0]⟩
          · exact ⟨_, _, e⟩
        subst hu
        go_wp2
        obtain ⟨M, hM⟩ : ∃ M : Nat → List Nat, ∀ k, M k = (A.zipIdx.take k).filterMap f := ⟨_, fun _ => rfl⟩
        have hMl : ∀ k, (M k).length ≤ k := fun k => by rw [hM]; exact Nat.le_trans (List.length_filterMap_le _ _) (by simp; omega)
        have hMs : Hid (∀ k x, A[k]? = some x → M (k + 1) = M k ++ (match f (x, k) with | some y => [y] | none => [])) := hidZ fun k x hx => by
          rw [hM, hM, List.take_add_one, List.filterMap_append]
          have : A.zipIdx[k]? = some (x, k) := by simp [List.getElem?_zipIdx, hx]
          rw [this]
          cases hfx : f (x, k) <;> simp [hfx]
        have hMe : Hid (res = M A.length) := hidZ (by rw [HV.out, hM, List.take_of_length_le (by simp)])
        have M0 : M 0 = [] := by rw [hM]; rfl
        clear hM HV
        go_loopw [8, 35] (fun u i W => ∃ k : Nat, k ≤ A.length ∧ i = .int .i64 (k : Int) ∧ Hid (W.ownsRow wq.heap.size 26 1 u (M k).length ((M k).map dayV)) ∧ Hid (Below wq.heap.size wq W)) (fun _ i _ => A.length - (vZ i).toNat)
        case atStart => exact ⟨0, Nat.zero_le _, rfl, hidZ (by rw [M0]; exact World.ownsRow_nil _ _ _ _), hidZ (Below.refl _ _)⟩
        case round =>
          rename World => wr
          obtain ⟨k, hk, rfl, hO2, hB2⟩ := hrel
          have bq : Below W0.heap.size W0 wr := hBq.trans (hB2.out.mono hBq.size)
          by_cases hkn : k < A.length
          · obtain ⟨x, hx⟩ : ∃ x, A[k]? = some x := ⟨_, List.getElem?_eq_getElem hkn⟩
            obtain ⟨g, eg, cx⟩ : ∃ g, ua = some ⟨g, 0, none⟩ ∧ wr.cell? ⟨g, k, none⟩ = some (.int .i64 (x : Int)) := by
              rcases own_cellZ hO with ⟨_, h0, _⟩ | ⟨g, cap, e, _, _, hc⟩
              · omega
              · have h1 := hc k (dayV x) (by rw [List.getElem?_map, hx]; rfl)
                exact ⟨g, by injection e, (hB2.out.cell (p := ⟨g, k, none⟩) (lt_of_cellZ h1)).trans h1⟩
            subst eg
            have hlt := hMl k
            have k1 : (k : Int) < (A.length : Int) := by omega
            have c7 := kc bq 7 _ (by rw [HCS.out]; rfl)
            have hnx := hMs.out k x hx
            rw [Hf.out] at hnx
            have hC1 := fun W hW => hC W hW ((k : Int) + 1)
            have hC2 := fun W hW => hC W hW ((k : Int) - (A.length : Int))
            generalize r.pos.contains ((k : Int) + 1) = p1 at hnx hC1
            generalize r.pos.contains ((k : Int) - (A.length : Int)) = p2 at hnx hC2
            have HNX := hidZ hnx
            clear hnx hC hLt
            go_wp2_with fail
            refine (hC1 _ (bt bq)).mono ?_
            rintro e w5 ⟨rfl, rfl⟩
            cases p1 with
            | true =>
              go_wp2_with (at_builtin; refine wpList_append_own _ rfl _ _ 78 rfl wq.heap.size 26 i0 (.int .i64 0) 1 8 Tryz.underlying78 hi hz0 hz1 hz2 rfl (by decide) _ _ _ rfl (hO2.out.alloc _) ⟨w5.heap.size, 0, none⟩ 1 1 [.int .i64 (x : Int)] rfl rfl (cell_one_new w5 _ _) (by simp [Value.oneCell']) (by simp only [maxLen]; omega) (by omega) (by have := hB2.out.size; simp; omega) ?_; intro v' w6 hown6 hgrow6 _)
              have b6 : Below wq.heap.size wq w6 := (hB2.out.alloc hB2.out.size _).grown hgrow6 (by have := hB2.out.size; simp; omega) fun j e => (hO2.out.lt j e).1
              exact ⟨⟨k + 1, by omega, by go_num, hidZ (by rw [HNX.out, List.map_append, List.length_append]; simpa [dayV] using hown6), hidZ b6⟩, by simp [vZ]; omega⟩
            | false =>
              go_wp2_with fail
              refine (hC2 _ (bt bq)).mono ?_
              rintro e w5 ⟨rfl, rfl⟩
              cases p2 with
              | true =>
                go_wp2_with (at_builtin; refine wpList_append_own _ rfl _ _ 78 rfl wq.heap.size 26 i0 (.int .i64 0) 1 8 Tryz.underlying78 hi hz0 hz1 hz2 rfl (by decide) _ _ _ rfl (hO2.out.alloc _) ⟨w5.heap.size, 0, none⟩ 1 1 [.int .i64 (x : Int)] rfl rfl (cell_one_new w5 _ _) (by simp [Value.oneCell']) (by simp only [maxLen]; omega) (by omega) (by have := hB2.out.size; simp; omega) ?_; intro v' w6 hown6 hgrow6 _)
                have b6 : Below wq.heap.size wq w6 := (hB2.out.alloc hB2.out.size _).grown hgrow6 (by have := hB2.out.size; simp; omega) fun j e => (hO2.out.lt j e).1
                exact ⟨⟨k + 1, by omega, by go_num, hidZ (by rw [HNX.out, List.map_append, List.length_append]; simpa [dayV] using hown6), hidZ b6⟩, by simp [vZ]; omega⟩
              | false =>
                go_wp2
                exact ⟨⟨k + 1, by omega, by go_num, hidZ (by rw [HNX.out]; simpa using hO2.out), hB2⟩, by simp [vZ]; omega⟩
          · have hke : k = A.length := by omega
            subst hke
            go_wp2
            exact bodyPost_ret (results_tmp rfl _ _ _) rfl ⟨_, rfl, by rw [hMe.out]; exact own_base hO2.out (bt hBq).size, bt bq⟩
end Go.Proofs.YtjhnpcnamclfbaaGreatDoor

/-! Periods, one behind the other; a preview. -/
namespace Go.Proofs.YtjhnpcnamclfbaaGreatDoor
open Go Go.Eng Go.RowKit

theorem perN_pos (f : Int) {n : Nat} (h1 : 1 ≤ n) (h2 : n ≤ lastN) : 1 ≤ (perN f n).1 := by
  have hd := dateN_dated h1 h2
  have := hd.low
  unfold perN
  split
  · show 1 ≤ n - wdN n
    have : wdN n ≤ n - 1 := Nat.mod_le _ _
    omega
  split
  · show 1 ≤ n + 1 - (dateN n).2.2
    omega
  split
  · show 1 ≤ aheadN (dateN n).1 + 1
    omega
  · exact h1
/-- A period that may be. -/
abbrev SpT := { p : Nat × Nat // 1 ≤ p.1 ∧ p.1 ≤ p.2 ∧ p.2 ≤ lastN }
noncomputable def spT (f : Int) (n : Nat) (h1 : 1 ≤ n) (h2 : n ≤ lastN) : SpT := ⟨perN f n, perN_pos f h1 h2, Nat.le_trans (perN_ok f h1 h2).1 (perN_ok f h1 h2).2.1, (perN_ok f h1 h2).2.2⟩
def spV (s : SpT) : Value := .agg #[.int .i64 (s.1.1 : Int), .int .i64 (s.1.2 : Int)]
noncomputable def nextN (f : Int) (s : SpT) : Option SpT := if h : s.1.2 < lastN then some (spT f (s.1.2 + 1) (by omega) h) else none
noncomputable def nextsN (f : Int) : Nat → SpT → Option SpT
  | 0, s => some s
  | k + 1, s => (nextN f s).bind (nextsN f k)
noncomputable def atN (f : Int) (k : Nat) (s : SpT) : Nat → Option SpT
  | 0 => some s
  | i + 1 => (atN f k s i).bind (nextsN f k)
theorem nextsN_succ (f : Int) : ∀ (k : Nat) (s : SpT), nextsN f (k + 1) s = (nextsN f k s).bind (nextN f)
  | 0, s => by
    show (nextN f s).bind (fun x => some x) = (some s).bind (nextN f)
    simp
  | k + 1, s => by
    show (nextN f s).bind (nextsN f (k + 1)) = ((nextN f s).bind (nextsN f k)).bind (nextN f)
    rw [Option.bind_assoc]
    congr 1
    funext x
    exact nextsN_succ f k x
theorem nextN_lt {f : Int} {s t : SpT} (h : nextN f s = some t) : s.1.2 < t.1.2 := by
  unfold nextN at h
  split at h
  · rename_i hl
    cases h
    have := (perN_ok f (n := s.1.2 + 1) (by omega) hl).2.1
    show s.1.2 < (perN f (s.1.2 + 1)).2
    omega
  · cases h
theorem nextsN_lt {f : Int} : ∀ {k : Nat} {s t : SpT}, nextsN f k s = some t → s.1.2 + k ≤ t.1.2
  | 0, s, t, h => by cases h; exact Nat.le_refl _
  | k + 1, s, t, h => by
    have h : (nextN f s).bind (nextsN f k) = some t := h
    cases hn : nextN f s with
    | none => rw [hn] at h; cases h
    | some u =>
      rw [hn] at h
      have := nextsN_lt (show nextsN f k u = some t from h)
      have := nextN_lt hn
      omega
theorem atN_le {f : Int} {k : Nat} (hk : 1 ≤ k) {s0 : SpT} : ∀ {i : Nat} {s : SpT}, atN f k s0 i = some s → i + 1 ≤ s.1.2
  | 0, s, h => by cases h; have := s0.2; omega
  | i + 1, s, h => by
    have h : (atN f k s0 i).bind (nextsN f k) = some s := h
    cases hn : atN f k s0 i with
    | none => rw [hn] at h; cases h
    | some u =>
      rw [hn] at h
      have := nextsN_lt (show nextsN f k u = some s from h)
      have := atN_le hk hn
      omega
/-- The first so many periods. -/
def Beg (f : Int) (k : Nat) (s0 : SpT) (pre : List SpT) : Prop := ∀ (i : Nat) x, pre[i]? = some x → atN f k s0 i = some x
theorem Beg.nil (f : Int) (k : Nat) (s0 : SpT) : Beg f k s0 [] := fun i x h => by cases h
theorem Beg.snoc {f : Int} {k : Nat} {s0 : SpT} {pre : List SpT} (h : Beg f k s0 pre) {x : SpT} (hx : atN f k s0 pre.length = some x) : Beg f k s0 (pre ++ [x]) := fun i y hi => by
  rw [List.getElem?_append] at hi
  split at hi
  · exact h i y hi
  · rename_i hl
    have e : i - pre.length = 0 := by
      rcases Nat.eq_zero_or_pos (i - pre.length) with h | h
      · exact h
      · rw [List.getElem?_eq_none (by show 1 ≤ _; omega)] at hi; cases hi
    rw [e] at hi
    cases hi
    have : i = pre.length := by omega
    rw [this]; exact hx

/-! ### A preview -/
structure AskN where
  r : RuleD
  start : Nat
  from_ : Nat
  upto : Nat
  limit : Nat
  budget : Nat
/-- One day: the days so far, how many were counted; or all is told. -/
def dayN1 (a : AskN) (st : List Nat × Nat) (d : Nat) : (List Nat × Nat) ⊕ List Nat :=
  if d < a.start then .inl st
  else if (0 < a.r.til ∧ a.r.til < (d : Int)) ∨ a.upto < d ∨ st.1.length = a.limit then .inr st.1
  else if ((st.2 + 1 : Nat) : Int) = a.r.count then .inr (if a.from_ ≤ d then st.1 ++ [d] else st.1)
  else .inl (if a.from_ ≤ d then st.1 ++ [d] else st.1, st.2 + 1)
def daysN (a : AskN) : List Nat → List Nat × Nat → (List Nat × Nat) ⊕ List Nat
  | [], st => .inl st
  | d :: l, st => match dayN1 a st d with
    | .inl st' => daysN a l st'
    | .inr o => .inr o
theorem daysN_snoc (a : AskN) : ∀ (l : List Nat) (d : Nat) (st : List Nat × Nat), daysN a (l ++ [d]) st = match daysN a l st with | .inl st' => dayN1 a st' d | .inr o => .inr o
  | [], d, st => by
    show (match dayN1 a st d with | .inl st' => daysN a [] st' | .inr o => .inr o) = dayN1 a st d
    cases dayN1 a st d <;> rfl
  | x :: l, d, st => by
    show (match dayN1 a st x with | .inl st' => daysN a (l ++ [d]) st' | .inr o => .inr o) = match (match dayN1 a st x with | .inl st' => daysN a l st' | .inr o => .inr o) with | .inl st' => dayN1 a st' d | .inr o => .inr o
    cases dayN1 a st x with
    | inl st' => exact daysN_snoc a l d st'
    | inr o => rfl
/-- One period; the second one of three: how many days were counted; the third: how many periods. -/
noncomputable def spanN (a : AskN) (st : (List Nat × Nat) × Nat) (s : SpT) : ((List Nat × Nat) × Nat) ⊕ (List Nat × Bool) :=
  if a.upto < s.1.1 ∨ (0 < a.r.til ∧ a.r.til < (s.1.1 : Int)) then .inr (st.1.1, false)
  else if st.2 = a.budget then .inr (st.1.1, true)
  else match daysN a (inN a.r a.start s.1) st.1 with
    | .inr o => .inr (o, false)
    | .inl st' => if st'.1.length = a.limit then .inr (st'.1, false) else .inl (st', st.2 + 1)
noncomputable def spansN (a : AskN) : List SpT → (List Nat × Nat) × Nat → ((List Nat × Nat) × Nat) ⊕ (List Nat × Bool)
  | [], st => .inl st
  | s :: l, st => match spanN a st s with
    | .inl st' => spansN a l st'
    | .inr o => .inr o
theorem spansN_snoc (a : AskN) : ∀ (l : List SpT) (s : SpT) (st), spansN a (l ++ [s]) st = match spansN a l st with | .inl st' => spanN a st' s | .inr o => .inr o
  | [], s, st => by
    show (match spanN a st s with | .inl st' => spansN a [] st' | .inr o => .inr o) = spanN a st s
    cases spanN a st s <;> rfl
  | x :: l, s, st => by
    show (match spanN a st x with | .inl st' => spansN a (l ++ [s]) st' | .inr o => .inr o) = match (match spanN a st x with | .inl st' => spansN a l st' | .inr o => .inr o) with | .inl st' => spanN a st' s | .inr o => .inr o
    cases spanN a st x with
    | inl st' => exact spansN_snoc a l s st'
    | inr o => rfl
/-- From the ith period on. -/
noncomputable def pvRun (a : AskN) (k : Nat) (s0 : SpT) : Nat → Nat → (List Nat × Nat) × Nat → List Nat × Bool
  | 0, _, st => (st.1.1, false)
  | fuel + 1, i, st => match atN a.r.freq k s0 i with
    | none => (st.1.1, false)
    | some s => match spanN a st s with
      | .inl st' => pvRun a k s0 fuel (i + 1) st'
      | .inr o => o
theorem pvRun_succ (a : AskN) (k : Nat) (s0 : SpT) (fuel i : Nat) (st) : pvRun a k s0 (fuel + 1) i st = match atN a.r.freq k s0 i with
    | none => (st.1.1, false)
    | some s => match spanN a st s with
      | .inl st' => pvRun a k s0 fuel (i + 1) st'
      | .inr o => o := rfl
theorem pv_beg (a : AskN) (k : Nat) (s0 : SpT) : ∀ (pre : List SpT) (i fuel : Nat) (st), (∀ (j : Nat) x, pre[j]? = some x → atN a.r.freq k s0 (i + j) = some x) → pre.length ≤ fuel →
    (∀ o, spansN a pre st = .inr o → pvRun a k s0 fuel i st = o) ∧ (∀ st', spansN a pre st = .inl st' → pvRun a k s0 fuel i st = pvRun a k s0 (fuel - pre.length) (i + pre.length) st')
  | [], i, fuel, st, _, _ => by
    refine ⟨fun o h => ?_, fun st' h => ?_⟩
    · cases h
    · cases h; rfl
  | s :: l, i, 0, st, _, h => absurd h (by simp)
  | s :: l, i, fuel + 1, st, hb, hl => by
    have h0 : atN a.r.freq k s0 i = some s := hb 0 s rfl
    have ih := fun st' => pv_beg a k s0 l (i + 1) fuel st' (fun j x hj => by rw [show i + 1 + j = i + (j + 1) by omega]; exact hb (j + 1) x hj) (by simpa using hl)
    have e : spansN a (s :: l) st = match spanN a st s with | .inl st' => spansN a l st' | .inr o => .inr o := rfl
    rw [e, pvRun_succ, h0]
    show (∀ o, (match spanN a st s with | .inl st' => spansN a l st' | .inr o => .inr o) = .inr o → (match spanN a st s with | .inl st' => pvRun a k s0 fuel (i + 1) st' | .inr o => o) = o) ∧ (∀ st', (match spanN a st s with | .inl st' => spansN a l st' | .inr o => .inr o) = .inl st' → (match spanN a st s with | .inl st' => pvRun a k s0 fuel (i + 1) st' | .inr o => o) = _)
    cases spanN a st s with
    | inl st' =>
      refine ⟨fun o h => (ih st').1 o h, fun st2 h => ((ih st').2 st2 h).trans ?_⟩
      rw [show fuel + 1 - (s :: l).length = fuel - l.length by simp, show i + (s :: l).length = i + 1 + l.length by simp; omega]
    | inr o =>
      refine ⟨fun o' h => ?_, fun st2 h => ?_⟩
      · cases h; rfl
      · cases h
noncomputable def pvN (a : AskN) (k : Nat) (s0 : SpT) : List Nat × Bool := pvRun a k s0 (lastN + 2) 0 (([], 0), 0)
theorem pv_some {a : AskN} {k : Nat} {s0 : SpT} {pre : List SpT} (hb : Beg a.r.freq k s0 pre) (hl : pre.length ≤ lastN + 1) {o} (h : spansN a pre (([], 0), 0) = .inr o) : pvN a k s0 = o :=
  (pv_beg a k s0 pre 0 (lastN + 2) _ (fun j x hj => by rw [Nat.zero_add]; exact hb j x hj) (by omega)).1 o h
theorem pv_none {a : AskN} {k : Nat} {s0 : SpT} {pre : List SpT} (hb : Beg a.r.freq k s0 pre) (hl : pre.length ≤ lastN + 1) (hn : atN a.r.freq k s0 pre.length = none) {st} (h : spansN a pre (([], 0), 0) = .inl st) : pvN a k s0 = (st.1.1, false) := by
  have h1 := (pv_beg a k s0 pre 0 (lastN + 2) _ (fun j x hj => by rw [Nat.zero_add]; exact hb j x hj) (by omega)).2 st h
  rw [show pvN a k s0 = pvRun a k s0 (lastN + 2) 0 (([], 0), 0) from rfl, h1, show lastN + 2 - pre.length = (lastN + 1 - pre.length) + 1 by omega, pvRun_succ, Nat.zero_add, hn]
end Go.Proofs.YtjhnpcnamclfbaaGreatDoor

/-! Known calls that hand back memory, for walks. -/
namespace Go.Proofs.YtjhnpcnamclfbaaGreatDoor
open Go Go.Eng Go.RowKit

theorem img_calls {V : World → Prop} {σ : Nat → Value} {f : FuncId} {args : List AV} {i : Img} {va : Array Value} {v : AV} {s' : St} (hk : ∀ m, KRow Tryz.prog gl (withM σ m) f args i V) (hp : place i (stOf gl) = some (v, s'))
    {w : World} (hw : Vars gl w) (hV : Hold V (fun j => j < w.heap.size) w) (hva : ∀ m ρ, VRs ρ (withM σ m) args va.toList) :
    Calls Tryz.prog f va w fun e w2 => ∃ u m ρ', e = .returned u ∧ Below w.heap.size w w2 ∧ VR ρ' (withM σ m) v u ∧ R (.at w.heap.size) ρ' (withM σ m) s' w2 := by
  obtain ⟨m, hm⟩ := hw
  obtain ⟨ρ, hR⟩ := hm (withM σ m) (withM_kM _ _)
  refine (hk m (.at w.heap.size) ρ (stOf gl) w va hV hR (by kernel_rfl) (hva m ρ) v s' hp).mono ?_
  rintro e w2 ⟨u, ρ', rfl, _, hu, hR2, hK⟩
  exact ⟨u, m, ρ', rfl, hK.at, hu, hR2⟩
def isZ (σ : Nat → Value) (z : Int) (a : AV) : Prop := a = .int .i64 z ∨ ∃ q, a = .sym q ∧ σ q = .int .i64 z
theorem r_slice {B : Base} {ρ : Rho} {σ : Nat → Value} {s : St} {w : World} (hR : R B ρ σ s w) {i o n c sz : Nat} {u : Value} (hu : VR ρ σ (.slice i o n c sz) u) {cs : List AV} {el : TypeId} {wr : Bool} (hs : s.get i = some (.cells cs el wr)) (hn : 0 < n) :
    ∃ b o' c', u = .slice (some ⟨b, o', none⟩) n c' ∧ b < w.heap.size ∧ ∀ (j : Nat) a, cs[o + j]? = some a → ∃ x, w.cell? ⟨b, o' + j, none⟩ = some x ∧ VR ρ σ a x := by
  obtain ⟨L, a, c', hL, rfl, h1, h2, h3⟩ := hu
  obtain ⟨rfl, _⟩ := h3.resolve_left (by omega)
  obtain ⟨ob, hob, cc, t, fr, rfl, _, _, hc, _⟩ := hR.here hs hL
  refine ⟨L.blk, L.sh + o, c', rfl, (Array.getElem?_eq_some_iff.1 hob).1, fun j a hj => ?_⟩
  obtain ⟨y, hy, hyv⟩ := cells_known hc hj
  refine ⟨y, ?_, hyv⟩
  rw [cell_at hob, ← hy, Nat.add_assoc]
theorem r_ints {B : Base} {ρ : Rho} {σ : Nat → Value} {s : St} {w : World} (hR : R B ρ σ s w) {i o n c sz : Nat} {u : Value} (hu : VR ρ σ (.slice i o n c sz) u) {cs : List AV} {el : TypeId} {wr : Bool} (hs : s.get i = some (.cells cs el wr)) {l : List Int} (hl : l.length = n)
    (hcs : ∀ (j : Nat) z, l[j]? = some z → ∃ a, cs[o + j]? = some a ∧ isZ σ z a) : IntsAt w u l := by
  rcases Nat.eq_zero_or_pos n with h0 | h0
  · obtain ⟨L, a, c', hL, rfl, _⟩ := hu
    subst h0
    exact .inl ⟨_, _, rfl, List.eq_nil_of_length_eq_zero hl⟩
  · obtain ⟨b, o', c', rfl, _, h⟩ := r_slice hR hu hs h0
    subst hl
    refine .inr ⟨b, o', c', rfl, fun j z hj => ?_⟩
    obtain ⟨a, ha, hz⟩ := hcs j z hj
    obtain ⟨x, hx, hv⟩ := h j a ha
    rw [hx]
    rcases hz with rfl | ⟨q, rfl, hq⟩
    · have hv : x = .int .i64 z := hv
      rw [hv]
    · have hv : x = σ q := hv.1
      rw [hv, hq]
end Go.Proofs.YtjhnpcnamclfbaaGreatDoor

/-! What a preview of periods that touch lists, each one's days told by a test: the first ones of all. -/
namespace Go.Proofs.YtjhnpcnamclfbaaGreatDoor
open Go Go.Eng Go.RowKit

/-- The days from one on, ahead of another, that are let. -/
def fromTo (T : Nat → Bool) (a b : Nat) : List Nat := (List.range' a (b - a)).filter T
theorem fromTo_nil (T : Nat → Bool) {a b : Nat} (h : b ≤ a) : fromTo T a b = [] := by
  unfold fromTo
  rw [Nat.sub_eq_zero_of_le h]
  rfl
theorem fromTo_cat (T : Nat → Bool) {a b c : Nat} (h1 : a ≤ b) (h2 : b ≤ c) : fromTo T a c = fromTo T a b ++ fromTo T b c := by
  unfold fromTo
  rw [← List.filter_append]
  congr 1
  have : c - a = (b - a) + (c - b) := by omega
  rw [this, ← List.range'_append_1]
  congr 2
  omega
theorem mem_fromTo {T : Nat → Bool} {a b x : Nat} : x ∈ fromTo T a b ↔ a ≤ x ∧ x < b ∧ T x = true := by
  unfold fromTo
  rw [List.mem_filter, List.mem_range'_1]
  constructor
  · rintro ⟨⟨h1, h2⟩, h3⟩
    exact ⟨h1, by omega, h3⟩
  · rintro ⟨h1, h2, h3⟩
    exact ⟨⟨h1, by omega⟩, h3⟩
theorem fromTo_none {T : Nat → Bool} {a b : Nat} (h : ∀ x, a ≤ x → x < b → T x = false) : fromTo T a b = [] := by
  apply List.eq_nil_iff_forall_not_mem.2
  intro x hx
  obtain ⟨h1, h2, h3⟩ := mem_fromTo.1 hx
  rw [h x h1 h2] at h3
  cases h3
theorem fromTo_sorted (T : Nat → Bool) (a b : Nat) : (fromTo T a b).Pairwise (· < ·) := List.Pairwise.filter _ (List.pairwise_lt_range' _)
theorem days_run {a : AskN} (hc : a.r.count = 0) (ht : a.r.til = 0) (hf : a.from_ = a.start) : ∀ (l out : List Nat) (n : Nat), l.Pairwise (· < ·) → out.length ≤ a.limit →
    (∃ n', daysN a l (out, n) = .inl (out ++ l.filter (fun x => decide (a.start ≤ x) && decide (x ≤ a.upto)), n') ∧ (out ++ l.filter (fun x => decide (a.start ≤ x) && decide (x ≤ a.upto))).length ≤ a.limit) ∨
    (daysN a l (out, n) = .inr ((out ++ l.filter (fun x => decide (a.start ≤ x) && decide (x ≤ a.upto))).take a.limit) ∧ ((∃ x ∈ l, a.upto < x) ∨ a.limit < (out ++ l.filter (fun x => decide (a.start ≤ x) && decide (x ≤ a.upto))).length))
  | [], out, n, _, hl => .inl ⟨n, by simp [daysN], by simpa using hl⟩
  | x :: l, out, n, hs, hl => by
    rw [List.pairwise_cons] at hs
    have e : daysN a (x :: l) (out, n) = match dayN1 a (out, n) x with | .inl st' => daysN a l st' | .inr o => .inr o := rfl
    rw [e]
    unfold dayN1
    by_cases h1 : x < a.start
    · rw [if_pos h1]
      have h2 : decide (a.start ≤ x) = false := decide_eq_false (by omega)
      rw [List.filter_cons, h2]
      simp only [Bool.false_and, Bool.false_eq_true, if_false]
      rcases days_run hc ht hf l out n hs.2 hl with ⟨n', h3, h4⟩ | ⟨h3, h4⟩
      · exact .inl ⟨n', h3, h4⟩
      · refine .inr ⟨h3, ?_⟩
        rcases h4 with ⟨y, hy, h5⟩ | h4
        · exact .inl ⟨y, List.mem_cons_of_mem _ hy, h5⟩
        · exact .inr h4
    · rw [if_neg h1]
      by_cases h2 : a.upto < x
      · rw [if_pos (.inr (.inl h2))]
        refine .inr ⟨?_, .inl ⟨x, List.mem_cons_self, h2⟩⟩
        have : (x :: l).filter (fun x => decide (a.start ≤ x) && decide (x ≤ a.upto)) = [] := by
          apply List.filter_eq_nil_iff.2
          intro y hy
          have : x ≤ y := by
            rcases List.mem_cons.1 hy with rfl | hy
            · exact Nat.le_refl _
            · exact Nat.le_of_lt (hs.1 y hy)
          simp only [Bool.and_eq_true, decide_eq_true_eq]
          omega
        rw [this, List.append_nil, List.take_of_length_le hl]
      · by_cases h3 : out.length = a.limit
        · rw [if_pos (.inr (.inr h3))]
          have h4 : (decide (a.start ≤ x) && decide (x ≤ a.upto)) = true := by simp only [Bool.and_eq_true, decide_eq_true_eq]; omega
          rw [List.filter_cons, h4]
          simp only [if_true]
          refine .inr ⟨?_, .inr (by rw [List.length_append, List.length_cons]; omega)⟩
          rw [← h3, List.take_left]
        · rw [if_neg (by rw [ht]; rintro (⟨h, _⟩ | h | h) <;> first | exact absurd h (by decide) | exact h2 h | exact h3 h), hc, if_neg (by omega)]
          have h4 : (decide (a.start ≤ x) && decide (x ≤ a.upto)) = true := by simp only [Bool.and_eq_true, decide_eq_true_eq]; omega
          rw [List.filter_cons, h4, hf, if_pos (by omega)]
          simp only [if_true]
          have e2 : ∀ g : List Nat, (out ++ [x]) ++ g = out ++ x :: g := fun g => by simp
          rcases days_run hc ht hf l (out ++ [x]) (n + 1) hs.2 (by rw [List.length_append, List.length_singleton]; omega) with ⟨n', h5, h6⟩ | ⟨h5, h6⟩
          · rw [e2] at h5 h6
            exact .inl ⟨n', h5, h6⟩
          · rw [e2] at h5 h6
            refine .inr ⟨h5, ?_⟩
            rcases h6 with ⟨y, hy, h7⟩ | h6
            · exact .inl ⟨y, List.mem_cons_of_mem _ hy, h7⟩
            · exact .inr h6

/-- Each period begins where the one ahead ends. -/
def Touch (f : Int) : Prop := ∀ n, 1 ≤ n → n ≤ lastN → (perN f n).2 < lastN → (perN f ((perN f n).2 + 1)).1 = (perN f n).2 + 1
def IsPer (f : Int) (s : SpT) : Prop := ∃ n, 1 ≤ n ∧ n ≤ lastN ∧ s.1 = perN f n
theorem nextN_per {f : Int} {s t : SpT} (h : nextN f s = some t) : IsPer f t ∧ t.1 = perN f (s.1.2 + 1) := by
  unfold nextN at h
  split at h
  · rename_i hl
    cases h
    exact ⟨⟨_, by omega, hl, rfl⟩, rfl⟩
  · cases h
theorem nextsN_one (f : Int) (s : SpT) : nextsN f 1 s = nextN f s := by
  show (nextN f s).bind (fun x => some x) = _
  simp
theorem atN_per {f : Int} {s0 : SpT} (h0 : IsPer f s0) : ∀ {i : Nat} {s : SpT}, atN f 1 s0 i = some s → IsPer f s
  | 0, s, h => by cases h; exact h0
  | i + 1, s, h => by
    have h : (atN f 1 s0 i).bind (nextsN f 1) = some s := h
    cases hn : atN f 1 s0 i with
    | none => rw [hn] at h; cases h
    | some u =>
      rw [hn] at h
      have h : nextsN f 1 u = some s := h
      rw [nextsN_one] at h
      exact (nextN_per h).1

theorem pv_run {a : AskN} (hc : a.r.count = 0) (ht : a.r.til = 0) (hf : a.from_ = a.start) (hl0 : 0 < a.limit) (tch : Touch a.r.freq) {T : Nat → Bool} (hT : ∀ s : SpT, IsPer a.r.freq s → inN a.r a.start s.1 = fromTo T s.1.1 (s.1.2 + 1)) {s0 : SpT} (h0 : IsPer a.r.freq s0)
    (hb : ∀ i s, atN a.r.freq 1 s0 i = some s → s.1.1 ≤ a.upto → i < a.budget) (ha : a.start ≤ lastN) :
    ∀ (fuel i : Nat) (s : SpT) (n : Nat), atN a.r.freq 1 s0 i = some s → lastN + 1 ≤ fuel + s.1.2 → a.start ≤ s.1.2 → (fromTo (fun x => T x && decide (x ≤ a.upto)) a.start s.1.1).length < a.limit →
      pvRun a 1 s0 (fuel + 1) i ((fromTo (fun x => T x && decide (x ≤ a.upto)) a.start s.1.1, n), i) = ((fromTo (fun x => T x && decide (x ≤ a.upto)) a.start (lastN + 1)).take a.limit, false)
  | fuel, i, s, n, hi, hfu, hst, hlen => by
    obtain ⟨F, hF⟩ : ∃ F : Nat → Nat → List Nat, F = fromTo (fun x => T x && decide (x ≤ a.upto)) := ⟨_, rfl⟩
    rw [← hF] at hlen ⊢
    have hs := s.2
    have cat : ∀ {x y z : Nat}, x ≤ y → y ≤ z → F x z = F x y ++ F y z := fun h1 h2 => by rw [hF]; exact fromTo_cat _ h1 h2
    have none_ : ∀ {x y : Nat}, a.upto < x → F x y = [] := fun {x y} h => by
      rw [hF]
      refine fromTo_none fun z h1 _ => ?_
      have : decide (z ≤ a.upto) = false := decide_eq_false (by omega)
      rw [this, Bool.and_false]
    have pre : ∀ {y : Nat}, a.start ≤ y → y ≤ lastN + 1 → a.upto < y ∨ a.limit ≤ (F a.start y).length → (F a.start (lastN + 1)).take a.limit = (F a.start y).take a.limit := fun {y} h1 h2 h3 => by
      rw [cat h1 h2]
      rcases h3 with h3 | h3
      · rw [none_ h3, List.append_nil]
      · rw [List.take_append_of_le_length h3]
    rw [pvRun_succ, hi]
    show (match spanN a ((F a.start s.1.1, n), i) s with | .inl st' => pvRun a 1 s0 fuel (i + 1) st' | .inr o => o) = _
    unfold spanN
    by_cases h1 : a.upto < s.1.1
    · rw [if_pos (.inl h1)]
      show (F a.start s.1.1, false) = _
      rcases Nat.le_total a.start s.1.1 with h | h
      · rw [pre (y := s.1.1) h (by omega) (.inl h1), List.take_of_length_le (Nat.le_of_lt hlen)]
      · rw [pre (y := a.start) (Nat.le_refl _) (by omega) (.inl (by omega)), hF, fromTo_nil _ h, fromTo_nil _ (Nat.le_refl _)]; simp
    rw [if_neg (by rw [ht]; rintro (h | ⟨h, _⟩) <;> first | exact h1 h | exact absurd h (by decide))]
    have h2 := hb i s hi (by omega)
    rw [if_neg (show ¬ i = a.budget by omega)]
    rw [hT s (atN_per h0 hi)]
    have hg : F a.start s.1.1 ++ (fromTo T s.1.1 (s.1.2 + 1)).filter (fun x => decide (a.start ≤ x) && decide (x ≤ a.upto)) = F a.start (s.1.2 + 1) := by
      have e1 : ∀ p q : Nat, (fromTo T p q).filter (fun x => decide (a.start ≤ x) && decide (x ≤ a.upto)) = fromTo (fun x => (decide (a.start ≤ x) && decide (x ≤ a.upto)) && T x) p q := fun p q => by
        unfold fromTo; rw [List.filter_filter]
      have e2 : ∀ p q : Nat, a.start ≤ p → fromTo (fun x => (decide (a.start ≤ x) && decide (x ≤ a.upto)) && T x) p q = F p q := fun p q hp => by
        rw [hF]
        unfold fromTo
        apply List.filter_congr
        intro x hx
        rw [List.mem_range'_1] at hx
        have : decide (a.start ≤ x) = true := decide_eq_true (by omega)
        rw [this, Bool.true_and, Bool.and_comm]
      rw [e1]
      rcases Nat.le_total a.start s.1.1 with h | h
      · rw [e2 _ _ h, ← cat h (by omega)]
      · rw [fromTo_cat _ h (show a.start ≤ s.1.2 + 1 by omega), e2 _ _ (Nat.le_refl _), fromTo_none (a := s.1.1) (b := a.start) (fun x _ hx => by
          have : decide (a.start ≤ x) = false := decide_eq_false (by omega)
          rw [this]; rfl), List.nil_append]
        have : F a.start s.1.1 = [] := by rw [hF]; exact fromTo_nil _ h
        rw [this, List.nil_append]
    have hd := days_run hc ht hf (fromTo T s.1.1 (s.1.2 + 1)) (F a.start s.1.1) n (fromTo_sorted _ _ _) (Nat.le_of_lt hlen)
    rw [hg] at hd
    rcases hd with ⟨n', h3, h4⟩ | ⟨h3, h4⟩
    · rw [h3]
      show (match (if (F a.start (s.1.2 + 1)).length = a.limit then (.inr (F a.start (s.1.2 + 1), false) : ((List Nat × Nat) × Nat) ⊕ (List Nat × Bool)) else .inl ((F a.start (s.1.2 + 1), n'), i + 1)) with | .inl st' => pvRun a 1 s0 fuel (i + 1) st' | .inr o => o) = _
      by_cases h5 : (F a.start (s.1.2 + 1)).length = a.limit
      · rw [if_pos h5]
        show (F a.start (s.1.2 + 1), false) = _
        rw [pre (y := s.1.2 + 1) (by omega) (by omega) (.inr (Nat.le_of_eq h5.symm)), List.take_of_length_le (Nat.le_of_eq h5)]
      · rw [if_neg h5]
        show pvRun a 1 s0 fuel (i + 1) ((F a.start (s.1.2 + 1), n'), i + 1) = _
        obtain ⟨fuel', rfl⟩ : ∃ fuel', fuel = fuel' + 1 := ⟨fuel - 1, by omega⟩
        have hnx : atN a.r.freq 1 s0 (i + 1) = nextN a.r.freq s := by
          show (atN a.r.freq 1 s0 i).bind (nextsN a.r.freq 1) = _
          rw [hi]
          exact nextsN_one _ _
        cases hn : nextN a.r.freq s with
        | none =>
          rw [pvRun_succ, hnx, hn]
          show (F a.start (s.1.2 + 1), false) = _
          have : s.1.2 = lastN := by
            unfold nextN at hn
            split at hn
            · cases hn
            · omega
          rw [this, List.take_of_length_le (by rw [← this]; exact h4)]
        | some t =>
          obtain ⟨_, ht1⟩ := nextN_per hn
          have ht2 : t.1.1 = s.1.2 + 1 := by
            obtain ⟨m, m1, m2, em⟩ := atN_per h0 hi
            rw [ht1, em]
            exact tch m m1 m2 (by rw [← em]; have := nextN_lt hn; have := t.2; omega)
          have h6 := nextN_lt hn
          rw [← ht2]
          rw [hF]
          exact pv_run hc ht hf hl0 tch hT h0 hb ha fuel' (i + 1) t n' (by rw [hnx, hn]) (by omega) (by omega) (by rw [← hF, ht2]; omega)
    · rw [h3]
      show ((F a.start (s.1.2 + 1)).take a.limit, false) = _
      have : a.upto < s.1.2 + 1 ∨ a.limit ≤ (F a.start (s.1.2 + 1)).length := by
        rcases h4 with ⟨x, hx, h4⟩ | h4
        · have := (mem_fromTo.1 hx).2.1
          exact .inl (by omega)
        · exact .inr (Nat.le_of_lt h4)
      rw [pre (y := s.1.2 + 1) (by omega) (by omega) this]
termination_by fuel => fuel

/-- What a preview lists. -/
theorem pv_eq {a : AskN} (hc : a.r.count = 0) (ht : a.r.til = 0) (hf : a.from_ = a.start) (hl0 : 0 < a.limit) (tch : Touch a.r.freq) {T : Nat → Bool} (hT : ∀ s : SpT, IsPer a.r.freq s → inN a.r a.start s.1 = fromTo T s.1.1 (s.1.2 + 1)) (h1 : 1 ≤ a.start) (h2 : a.start ≤ lastN)
    (hb : ∀ i s, atN a.r.freq 1 (spT a.r.freq a.start h1 h2) i = some s → s.1.1 ≤ a.upto → i < a.budget) :
    pvN a 1 (spT a.r.freq a.start h1 h2) = ((fromTo (fun x => T x && decide (x ≤ a.upto)) a.start (lastN + 1)).take a.limit, false) := by
  have hp := perN_ok a.r.freq h1 h2
  have e : fromTo (fun x => T x && decide (x ≤ a.upto)) a.start (spT a.r.freq a.start h1 h2).1.1 = [] := fromTo_nil _ hp.1
  have := pv_run hc ht hf hl0 tch hT (s0 := spT a.r.freq a.start h1 h2) ⟨_, h1, h2, rfl⟩ hb h2 (lastN + 1) 0 (spT a.r.freq a.start h1 h2) 0 rfl (by omega) hp.2.1 (by rw [e]; exact hl0)
  rw [e] at this
  exact this
end Go.Proofs.YtjhnpcnamclfbaaGreatDoor
