/- Does a grammar loop? No condition. -/
import Derived.Test.YtddeekefomhbmaaGreatDoorAe
import Derived.Test.YtddeekefomhbmaaGreatDoorAi
import Derived.Test.YtddeekefomhbmaaGreatDoorAk
import Derived.Test.YtddeekefomhbmaaGreatDoorAm
import Derived.WideLaws
import Derived.Maps.RangeWalk
import Derived.LoopN
import Derived.Test.YtddeekefomhbmaaGreatDoorE14
import Derived.StillTailTactics
namespace Go.Proofs.YtddeekefomhbmaaGreatDoor
open Go Go.RowKit Go.Shelf Go.Maps
attribute [local go_sem] Oper.semAt_some

set_option maxRecDepth 100000 in
set_option maxHeartbeats 2000000 in
theorem loops_calls (v : Value) (R : List GRule) (w : World) (hG : ∀ W, Below w.heap.size w W → IsG W v R) (hlen : R.length ≤ 100) (hmost : mostG R ≤ 100) (hrl : ∀ r ∈ R, r.2.length ≤ 100) :
    Calls Tryz.prog 11 #[.agg #[v]] w fun e w' => ∃ b, e = .returned (.bool b) ∧ (b = true ↔ Loopy R) ∧ Below w.heap.size w w' := by
  obtain ⟨a, c, rfl, hrow⟩ := isG_rows hG
  have t330 := Tryz.underlying27; have a330 := Tryz.isAgg27; have z330 := Tryz.sizeOf27; have u330 := run_underlying Tryz.underlying27
  have t402 := Tryz.underlying39; have a402 := Tryz.isAgg39; have z402 := Tryz.sizeOf39; have u402 := run_underlying Tryz.underlying39
  have t404 := Tryz.underlying66; have a404 := Tryz.isAgg66; have z404 := Tryz.sizeOf66; have u404 := run_underlying Tryz.underlying66
  have hmm := @run_makeMap Tryz.prog
  obtain ⟨i0, hi, hz0, hz1, hz2⟩ := info_parts (show (Tryz.prog.info? 69).map (fun i => (i.zero, i.size, i.bytes)) = some (some (.map none), 1, 8) by kernel_rfl)
  have hE : ∀ W, Below w.heap.size w W → Calls Tryz.prog 10 #[.agg #[.slice a R.length c]] W fun e w' => ∃ g out, e = .returned (.slice (some ⟨g, 0, none⟩) out.length out.length) ∧ W.heap.size ≤ g ∧ OutAt w' g out ∧ out.length = mostG R + 1 ∧ (∀ k : Nat, out[k]? = some true ↔ Nul R k) ∧ Below W.heap.size W w' := fun W hW =>
    empty_calls _ R W (fun W' hW' => hG W' (hW.trans (hW'.mono hW.size))) hlen hmost hrl
  go_enter Tryz.func11, Tryz.ntmps11
  go_wp2_with fail
  refine (hE _ ((Below.refl w.heap.size w).alloc (Nat.le_refl _) _)).mono ?_
  rintro e w1 ⟨g, out, rfl, hg, hO, hol, hN, hB⟩
  rw [hol]
  obtain ⟨w2, hmk, hown, hgr⟩ := run_makeSlice_full (P := Tryz.prog) (w := w1) w1.heap.size 68 69 i0 (.map none) 1 Tryz.underlying68 hi hz0 hz1 .i64 .i64 (mostG R + 1) (by omega) (by rw [hz2]; omega) (by simp only [maxLen]; omega) (Nat.le_refl _)
  rw [show ((mostG R + 1 : Nat) : Int) = (mostG R : Int) + 1 by omega] at hmk
  go_wp2_with fail
  go_loopw [25] (fun i wr => ∃ (k : Nat) (xs : List Value), k ≤ mostG R + 1 ∧ i = .int .i64 k ∧ Hid (Chg (fun x => x = w1.heap.size) w2 wr) ∧ Hid (wr.ownsRow w1.heap.size 69 1 (.slice (some ⟨w1.heap.size, 0, none⟩) (mostG R + 1) (mostG R + 1)) (mostG R + 1) xs) ∧ wr.heap.size = w2.heap.size + k ∧ Hid (∀ j, j < k → xs[j]? = some (.map (some (w2.heap.size + j))) ∧ wr.heap[w2.heap.size + j]? = some (.map #[] 0))) (fun i _ => mostG R + 1 - (valI i).toNat)
  case atStart =>
    exact ⟨0, _, Nat.zero_le _, rfl, hid' (Chg.refl _ _), hid' hown, rfl, hid' (fun j hj => by omega)⟩
  case round =>
    rename World => wq
    obtain ⟨k, xs, hk, rfl, hC, hO2, hsz, hM⟩ := hrel
    by_cases hkn : k < mostG R + 1
    · have hfz := hO2.out.frozenAt k
      have hcl := hO2.out.cellAt k (by omega)
      obtain ⟨x0, hx0⟩ : ∃ x, xs[k]? = some x := ⟨_, List.getElem?_eq_getElem (by have := hO2.out.1; omega)⟩
      rw [hx0] at hcl
      have hcl2 : (wq.alloc (.map #[] 0)).cell? ⟨w1.heap.size, k, none⟩ = some x0 := (World.cell?_of_block (Below.heap_alloc _ _ _ (lt_of_cellC hcl))).trans hcl
      have hfz2 : (wq.alloc (.map #[] 0)).frozen? ⟨w1.heap.size, k, none⟩ = false := (World.frozen?_of_block (Below.heap_alloc _ _ _ (lt_of_cellC hcl))).trans hfz
      go_wp2
      obtain ⟨st1, st2⟩ := World.ownsRow.stored (hO2.out.alloc (.map #[] 0)) k (.map (some (w2.heap.size + k)))
      have hxl := hO2.out.1
      refine ⟨⟨k + 1, xs.set k (.map (some (w2.heap.size + k))), by omega, by go_num, hid' ?_, hid' ?_, ?_, hid' fun j hj => ?_⟩, by simp [valI]; omega⟩
      · exact hC.out.trans ((Chg.alloc _ _ _).trans (Chg.grown st2 fun r e => by injection e with e; exact e.symm))
      · exact st1
      · simp [World.setCell, hsz]; omega
      · have hT : w1.heap.size < w2.heap.size := by have := (hown.lt w1.heap.size rfl).2; exact this
        have hset : ∀ b, b ≠ w1.heap.size → ((wq.alloc (.map #[] 0)).setCell ⟨w1.heap.size, k, none⟩ (.map (some (w2.heap.size + k)))).heap[b]? = (wq.alloc (.map #[] 0)).heap[b]? := fun b hb => by
          have : w1.heap.size ≠ b := fun e => hb e.symm
          simp [World.setCell, Array.getElem?_modify, this]
        rcases Nat.lt_or_ge j k with h1 | h1
        · obtain ⟨q1, q2⟩ := hM.out j h1
          exact ⟨by rw [List.getElem?_set_ne (by omega)]; exact q1, (hset _ (by omega)).trans ((Below.heap_alloc _ _ _ (by omega)).trans q2)⟩
        · obtain rfl : j = k := by omega
          refine ⟨List.getElem?_set_self (by omega), (hset _ (by omega)).trans ?_⟩
          have := World.alloc_heap_new wq (.map #[] 0)
          rwa [hsz] at this
    · have hwb : w.heap.size < w1.heap.size := by have := hB.size; simp at this; omega
      have hT : w1.heap.size < w2.heap.size := (hown.lt w1.heap.size rfl).2
      have hb1 : Boxed w1 w.heap.size 27 (.slice a R.length c) := by
        refine (hB.block _ (by simp)).trans ?_
        exact Boxed.new w 27 _
      have hb2 : Boxed wq w.heap.size 27 (.slice a R.length c) := (hC.out.block _ (by omega) (by omega)).trans ((hgr.block _ hwb (by simp)).trans hb1)
      have hbc := hb2.cell
      have hE0 : St Tryz.prog 3 3 (w.heap.size + 1) wq w1.heap.size (fun i => w2.heap.size + i) (mostG R + 1) 0 (fun _ _ => False) := by
        refine ⟨fun i hi => ?_, fun i hi => ?_, fun i j _ _ h => by omega, fun i _ => by omega, fun i _ => by omega, by omega⟩
        · rw [hO2.out.cellAt i (by omega)]; exact (hM.out i (by omega)).1
        · exact ⟨.map [], ⟨#[], 0, (hM.out i (by omega)).2, ⟨by simp, MapKept.stamped_empty 0, by simp⟩, Nat.zero_le _, rfl⟩, Num.empty _ _⟩
      go_wp2
      have hOq : OutAt wq g out := by
        have hgl : g < w1.heap.size := (hO.lt g rfl).2
        exact (hC.out.ownsRow' ((Chg.grown (X := fun _ => False) hgr fun r e => by cases e).ownsRow' hO fun _ _ h => h) fun q e h => by cases e; have h : g = w1.heap.size := h; omega)
      have hwq : Below w.heap.size w wq := by
        have h1 : Below w.heap.size w (w.alloc (.cells #[.slice a R.length c] 27)) := (Below.refl w.heap.size w).alloc (Nat.le_refl _) _
        have h2 : Below w.heap.size w1 w2 := (Below.refl _ _).grown hgr (by omega) (by simp)
        exact ((h1.trans (hB.mono (by simp))).trans h2).trans (hC.out.below (fun q hq e => by omega) (by omega))
      have hgl : g < w2.heap.size := by have := (hO.lt g rfl).2; omega
      clear hM hO2 hC hmk hown hgr hb1 hb2 hO hB hE hmm
      obtain ⟨Bs, hBs⟩ : ∃ b, b = w2.heap.size := ⟨_, rfl⟩
      obtain ⟨T, hTe⟩ : ∃ b, b = w1.heap.size := ⟨_, rfl⟩
      rw [← hBs] at hE0 hsz hT hgl
      rw [← hTe] at hE0 hT hwb ⊢
      clear hBs hTe
      obtain ⟨X, hX⟩ : ∃ X : Nat → Prop, X = fun x => ∃ i, i < mostG R + 1 ∧ x = Bs + i := ⟨_, rfl⟩
      have hXlo : ∀ x, X x → Bs ≤ x := fun x h => by rw [hX] at h; obtain ⟨i, _, rfl⟩ := h; omega
      have hXB : ∀ i, i < mostG R + 1 → X (Bs + i) := fun i hi => by rw [hX]; exact ⟨i, hi, rfl⟩
      go_loopw [36] (fun i W => ∃ (k : Nat) (E : Nat → Nat → Prop), k ≤ R.length ∧ i = .int .i64 k ∧ Hid (Chg X wq W) ∧ Hid (St Tryz.prog 3 3 (w.heap.size + 1) W T (fun i => Bs + i) (mostG R + 1) (k * 100) E) ∧ Hid (∀ i x, E i x ↔ x < mostG R + 1 ∧ ∃ r ∈ R.take k, r.1 = i ∧ ∃ p, Step1 R r p x)) (fun i _ => R.length - (valI i).toNat)
      case atStart => exact ⟨0, _, Nat.zero_le _, rfl, hid' (Chg.refl _ _), hid' hE0, hid' fun i x => ⟨fun h => h.elim, fun h => by obtain ⟨_, r, hr, _⟩ := h; simp at hr⟩⟩
      case round =>
        rename World => wz
        obtain ⟨k, E, hk, rfl, hC, hS, hEx⟩ := hrel
        have hwz : Below w.heap.size w wz := hwq.trans (hC.out.below (fun q hq e => by have := hXlo q e; omega) (by omega))
        by_cases hkn : k < R.length
        · obtain ⟨r, hr⟩ : ∃ r, R[k]? = some r := ⟨_, List.getElem?_eq_getElem hkn⟩
          obtain ⟨b, rfl, hb, hcells⟩ := hrow k r hr
          obtain ⟨s, t, ⟨c1, c2, c3⟩, hRS⟩ := hcells wz hwz
          obtain ⟨sx, sc, rfl⟩ := rowS_form hRS
          have HRS : Hid (RowS w (.slice sx r.2.length sc) r.2) := by
            obtain ⟨s', t', ⟨d1, d2, d3⟩, hRw⟩ := hcells w (Below.refl _ _)
            have e : wz.cell? ⟨b, k * 3 + 1, none⟩ = w.cell? ⟨b, k * 3 + 1, none⟩ := hwz.cell hb
            rw [c2, d2] at e
            have e : Value.slice sx r.2.length sc = s' := by injection e
            rw [e]; exact hid' hRw
          clear hRS
          have hrl' : r.2.length ≤ 100 := hrl r (List.mem_of_getElem? hr)
          have hrm : r.1 < mostG R + 1 := by have := mostG_le (List.mem_of_getElem? hr); omega
          go_wp2
          obtain ⟨W1, hW1⟩ : ∃ W1, (wz.alloc (.cells #[.int .i64 (r.1 : Int), .slice sx r.2.length sc, .int .i64 t] 39)) = W1 := ⟨_, rfl⟩
          rw [hW1]
          have hs1 : W1.heap.size = wz.heap.size + 1 := by rw [← hW1]; simp
          have hc1 : Chg (fun _ => False) wz W1 := by rw [← hW1]; exact Chg.alloc _ _ _
          have hzz := hC.out.size
          have hbox3 : Box3 W1 wz.heap.size 39 (.int .i64 (r.1 : Int)) (.slice sx r.2.length sc) (.int .i64 t) := by rw [← hW1]; exact Box3.new _ _ _ _ _
          have hXlt : ∀ x, X x → x < wq.heap.size := fun x h => by rw [hX] at h; obtain ⟨i, hi, rfl⟩ := h; rw [hsz]; omega
          have hSt1 : St Tryz.prog 3 3 (w.heap.size + 1) W1 T (fun i => Bs + i) (mostG R + 1) (k * 100) E := by rw [← hW1]; exact hS.out.alloc _
          go_loopw [43] (fun j W => ∃ (q : Nat) (F : Nat → Nat → Prop), q ≤ r.2.length ∧ j = .int .i64 q ∧ Hid (Chg X W1 W) ∧ Hid (St Tryz.prog 3 3 (w.heap.size + 1) W T (fun i => Bs + i) (mostG R + 1) (k * 100 + q) F) ∧ Hid (∀ i x, F i x ↔ E i x ∨ (x < mostG R + 1 ∧ r.1 = i ∧ ∃ p, p < q ∧ Step1 R r p x))) (fun j _ => r.2.length - (valI j).toNat)
          case atStart => exact ⟨0, _, Nat.zero_le _, rfl, hid' (Chg.refl _ _), hid' hSt1, hid' fun i x => ⟨fun h => .inl h, fun h => h.resolve_right fun h => by obtain ⟨_, _, p, hp, _⟩ := h; omega⟩⟩
          case round =>
            rename World => wy
            obtain ⟨q, F, hq, rfl, hC3, hS3, hF⟩ := hrel
            by_cases hqn : q < r.2.length
            · obtain ⟨y, hy⟩ : ∃ y, r.2[q]? = some y := ⟨_, List.getElem?_eq_getElem hqn⟩
              obtain ⟨b2, c2', hsx, hsym⟩ : ∃ b c, Value.slice sx r.2.length sc = .slice (some ⟨b, 0, none⟩) r.2.length c ∧ ∀ (j : Nat) x, r.2[j]? = some x → SymAt w b (j * 3) x := by
                rcases HRS.out with ⟨_, h⟩ | h
                · rw [h] at hy; simp at hy
                · exact h
              cases hsx
              -- what lay ahead lies there still
              have hzy : Chg X wz wy := (hc1.more fun _ _ h => h.elim).trans hC3.out
              have hwy : Below w.heap.size w wy := hwz.trans (hzy.below (fun q hq e => by have := hXlo q e; omega) (by omega))
              have keep : ∀ {W : World}, Below w.heap.size w W → ∀ {bb o v}, w.cell? ⟨bb, o, none⟩ = some v → W.cell? ⟨bb, o, none⟩ = some v := fun {W} hc {bb o v} h => (hc.cell (p := ⟨bb, o, none⟩) (lt_of_cellC h)).trans h
              have hbox : Box3 wy wz.heap.size 39 (.int .i64 (r.1 : Int)) (.slice (some ⟨b2, 0, none⟩) r.2.length sc) (.int .i64 t) := hbox3.keep (hC3.out.block _ (by omega) (fun h => by have := hXlt _ h; omega))
              have k0 := hbox.c0
              have k1 := hbox.c1
              have hsy := hsym q y hy
              have fin0 : (∀ x, x < mostG R + 1 → ¬ Step1 R r q x) → ∀ W', Chg (fun _ => False) wy W' → ∃ (q' : Nat) (F : Nat → Nat → Prop), q' ≤ r.2.length ∧ Value.int .i64 ((q : Int) + 1) = .int .i64 q' ∧ Hid (Chg X W1 W') ∧ Hid (St Tryz.prog 3 3 (w.heap.size + 1) W' T (fun i => Bs + i) (mostG R + 1) (k * 100 + q') F) ∧ Hid (∀ i x, F i x ↔ E i x ∨ (x < mostG R + 1 ∧ r.1 = i ∧ ∃ p, p < q' ∧ Step1 R r p x)) := fun hno W' hW' =>
                ⟨q + 1, F, by omega, by go_num, hid' (hC3.out.trans (hW'.more fun _ _ h => h.elim)), hid' ((hS3.out.kept hW'.size fun k hk _ => hW'.block k hk id).more (by omega)), hid' fun i x => by
                  rw [hF.out i x]
                  constructor
                  · rintro (h | ⟨h1, h2, p, hp, h3⟩)
                    · exact .inl h
                    · exact .inr ⟨h1, h2, p, by omega, h3⟩
                  · rintro (h | ⟨h1, h2, p, hp, h3⟩)
                    · exact .inl h
                    · refine .inr ⟨h1, h2, p, ?_, h3⟩
                      rcases Nat.lt_or_ge p q with h | h
                      · exact h
                      · obtain rfl : p = q := by omega
                        exact absurd h3 (hno x h1)⟩
              have FIN0 := hid' fin0
              clear fin0
              cases y with
              | none =>
                obtain ⟨c', d', s1, s2, s3⟩ := hsy
                have s1 := keep hwy s1
                have s2 := keep hwy s2
                have s3 := keep hwy s3
                go_wp2
                go_roundw
                case rel => exact FIN0.out (fun x _ h => by have := h.1; rw [hy] at this; cases this) _ (Chg.alloc _ _ _)
                case measure => simp [valI]; omega
              | some y =>
                obtain ⟨c', s1, s2, s3⟩ := hsy
                have s1 := keep hwy s1
                have s2 := keep hwy s2
                have s3 := keep hwy s3
                have y0 : ¬ ((y : Int) < 0) := by omega
                have kl : ∀ {v} {o : Nat}, wy.cell? ⟨wz.heap.size, o, none⟩ = some v → (wy.alloc (.cells #[.bool false, .int .i64 c', .int .i64 (y : Int)] 66)).cell? ⟨wz.heap.size, o, none⟩ = some v := fun {v o} h => (World.cell?_of_block (Below.heap_alloc _ _ _ (lt_of_cellC h))).trans h
                have k0' := kl k0
                have k1' := kl k1
                by_cases hyN : y < mostG R + 1
                · have y1 : ¬ ((mostG R : Int) + 1 ≤ (y : Int)) := by omega
                  go_wp2
                  obtain ⟨W2, hW2⟩ : ∃ W2, (wy.alloc (.cells #[.bool false, .int .i64 c', .int .i64 (y : Int)] 66)) = W2 := ⟨_, rfl⟩
                  rw [hW2]
                  have hs2 : W2.heap.size = wy.heap.size + 1 := by rw [← hW2]; simp
                  have hc2 : Chg (fun _ => False) wy W2 := by rw [← hW2]; exact Chg.alloc _ _ _
                  have hb9 : Box3 W2 wy.heap.size 66 (.bool false) (.int .i64 c') (.int .i64 (y : Int)) := by rw [← hW2]; exact Box3.new _ _ _ _ _
                  have hyy := hC3.out.size
                  go_loopw [10, 65] (fun rest kk W => ∃ p : Nat, p ≤ r.2.length ∧ kk = .int .i64 p ∧ rest = .bool (restB (sat out) r.2 q p) ∧ Hid (Chg (fun _ => False) W2 W)) (fun _ kk _ => r.2.length - (valI kk).toNat)
                  case atStart => exact ⟨0, Nat.zero_le _, rfl, rfl, hid' (Chg.refl _ _)⟩
                  case round =>
                    rename World => wx
                    obtain ⟨p, hp, rfl, rfl, hC4⟩ := hrel
                    have hyx : Chg (fun _ => False) wy wx := hc2.trans hC4.out
                    have hwx : Below w.heap.size w wx := hwy.trans (hyx.below (fun _ _ h => h) (by have := hwy.size; omega))
                    have hxx := hC4.out.size
                    by_cases hpn : p < r.2.length
                    · obtain ⟨y2, hy2⟩ : ∃ y, r.2[p]? = some y := ⟨_, List.getElem?_eq_getElem hpn⟩
                      have hstep : restB (sat out) r.2 q (p + 1) = (restB (sat out) r.2 q p && (Nat.beq p q || sat out y2)) := by
                        show (restB (sat out) r.2 q p && (Nat.beq p q || sat out (r.2.getD p none))) = _
                        rw [List.getD_eq_getElem?_getD, hy2]; rfl
                      have hsy2 := hsym p y2 hy2
                      generalize hBv : restB (sat out) r.2 q p = B at hstep
                      have fin : ∀ W', Chg (fun _ => False) wx W' → ∀ al, al = (B && (Nat.beq p q || sat out y2)) → (∃ p' : Nat, p' ≤ r.2.length ∧ Value.int .i64 ((p : Int) + 1) = .int .i64 p' ∧ Value.bool al = .bool (restB (sat out) r.2 q p') ∧ Hid (Chg (fun _ => False) W2 W')) ∧ r.2.length - (valI (.int .i64 ((p : Int) + 1))).toNat < r.2.length - (valI (.int .i64 (p : Int))).toNat := fun W' hW' al hal =>
                        ⟨⟨p + 1, by omega, by go_num, by rw [hstep, hal], hid' (hC4.out.trans hW')⟩, by simp [valI]; omega⟩
                      have FIN := hid' fin
                      clear fin
                      have hOx : OutAt wx g out := ((hyx.more fun _ _ h => h.elim).ownsRow' (X := fun _ => False) ((hzy.ownsRow' (hC.out.ownsRow' hOq fun q e h => by cases e; have h2 : Bs ≤ g := hXlo _ h; omega) fun q e h => by cases e; have h2 : Bs ≤ g := hXlo _ h; omega)) fun _ _ h => h)
                      by_cases hpq : p = q
                      · have hbeq : Nat.beq p q = true := by rw [hpq]; exact Nat.beq_refl q
                        rw [hbeq, Bool.true_or, Bool.and_true] at FIN
                        subst hpq
                        cases y2 with
                        | none =>
                          obtain ⟨c'', d'', s1', s2', s3'⟩ := hsy2
                          have s1' := keep hwx s1'
                          have s2' := keep hwx s2'
                          have s3' := keep hwx s3'
                          cases B with
                          | false =>
                            go_wp2
                            exact FIN.out _ (Chg.alloc _ _ _) false rfl
                          | true =>
                            go_wp2
                            exact FIN.out _ (Chg.alloc _ _ _) true rfl
                        | some y2 =>
                          obtain ⟨c'', s1', s2', s3'⟩ := hsy2
                          have s1' := keep hwx s1'
                          have s2' := keep hwx s2'
                          have s3' := keep hwx s3'
                          cases B with
                          | false =>
                            go_wp2
                            exact FIN.out _ (Chg.alloc _ _ _) false rfl
                          | true =>
                            go_wp2
                            exact FIN.out _ (Chg.alloc _ _ _) true rfl
                      · have hbeq : Nat.beq p q = false := by cases h : Nat.beq p q with
                          | false => rfl
                          | true => exact absurd (Nat.eq_of_beq_eq_true h) hpq
                        rw [hbeq, Bool.false_or] at FIN
                        have hpq' : ((p : Int) == (q : Int)) = false := by
                          cases h : (p : Int) == (q : Int) with
                          | false => rfl
                          | true => exact absurd (by have : (p : Int) = (q : Int) := by simpa using h
                                                     omega) hpq
                        cases y2 with
                        | none =>
                          obtain ⟨c'', d'', s1', s2', s3'⟩ := hsy2
                          have s1' := keep hwx s1'
                          have s2' := keep hwx s2'
                          have s3' := keep hwx s3'
                          cases B with
                          | false =>
                            go_wp2
                            exact FIN.out _ (Chg.alloc _ _ _) false rfl
                          | true =>
                            go_wp2
                            exact FIN.out _ (Chg.alloc _ _ _) false rfl
                        | some y2 =>
                          obtain ⟨c'', s1', s2', s3'⟩ := hsy2
                          have s1' := keep hwx s1'
                          have s2' := keep hwx s2'
                          have s3' := keep hwx s3'
                          have y20 : (0 : Int) ≤ (y2 : Int) := by omega
                          cases B with
                          | false =>
                            go_wp2
                            exact FIN.out _ (Chg.alloc _ _ _) false rfl
                          | true =>
                            by_cases hq2 : y2 < mostG R + 1
                            · have hq3 : (y2 : Int) < (mostG R : Int) + 1 := by omega
                              have hqc : (wx.alloc (.cells #[.bool false, .int .i64 c'', .int .i64 (y2 : Int)] 66)).cell? ⟨g, y2, none⟩ = some (.bool (out[y2]'(by omega))) := by
                                have h := outAt_cell hOx (j := y2) (by omega)
                                rw [((Below.refl wx.heap.size wx).alloc (Nat.le_refl _) _).cell (p := ⟨g, y2, none⟩) (lt_of_cellC h)]; exact h
                              go_wp2
                              exact FIN.out _ (Chg.alloc _ _ _) (out[y2]'(by omega)) (by
                                have e : (true && sat out (some y2)) = (out[y2]?).getD false := rfl
                                rw [e, List.getElem?_eq_getElem (by omega)]; rfl)
                            · have hq3 : ¬ ((y2 : Int) < (mostG R : Int) + 1) := by omega
                              go_wp2
                              exact FIN.out _ (Chg.alloc _ _ _) false (by
                                have e : (true && sat out (some y2)) = (out[y2]?).getD false := rfl
                                rw [e, List.getElem?_eq_none (by omega)]; rfl)
                    · have hrest : restB (sat out) r.2 q p = true ↔ Step1 R r q y := by
                        rw [restB_iff]
                        have hsn : ∀ {z : Nat}, sat out (some z) = true ↔ Nul R z := fun {z} => by
                          rw [← hN z]
                          show (out[z]?).getD false = true ↔ _
                          cases out[z]? <;> simp
                        constructor
                        · intro h
                          refine ⟨hy, fun j hj s hs => ?_⟩
                          have hjl : j < r.2.length := (List.getElem?_eq_some_iff.1 hs).1
                          have := h j (by omega) hj
                          rw [List.getD_eq_getElem?_getD, hs] at this
                          cases s with
                          | none => cases this
                          | some z => exact ⟨z, rfl, hsn.1 this⟩
                        · rintro ⟨_, h⟩ j hj hn
                          obtain ⟨s, hs⟩ : ∃ s, r.2[j]? = some s := ⟨_, List.getElem?_eq_getElem (by omega)⟩
                          obtain ⟨z, rfl, hz⟩ := h j hn s hs
                          rw [List.getD_eq_getElem?_getD, hs]
                          exact hsn.2 hz
                      generalize restB (sat out) r.2 q p = B at hrest
                      have hb3 : Box3 wx wz.heap.size 39 (.int .i64 (r.1 : Int)) (.slice (some ⟨b2, 0, none⟩) r.2.length sc) (.int .i64 t) := hbox.keep (hyx.block _ hbox.lt (fun h => h))
                      have hb9x : Box3 wx wy.heap.size 66 (.bool false) (.int .i64 c') (.int .i64 (y : Int)) := hb9.keep (hC4.out.block _ hb9.lt (fun h => h))
                      have m0 := hb3.c0
                      have m2 := hb9x.c2
                      have hSx : St Tryz.prog 3 3 (w.heap.size + 1) wx T (fun i => Bs + i) (mostG R + 1) (k * 100 + q) F := hS3.out.kept hyx.size fun kk hk _ => hyx.block kk hk id
                      have mT := hSx.row r.1 hrm
                      cases B with
                      | false =>
                        go_wp2
                        go_roundw
                        case rel => exact FIN0.out (fun x hx h => by
                          have h1 := h.1
                          rw [hy] at h1
                          have : y = x := by injection h1 with h1; injection h1
                          subst this
                          have := hrest.2 h
                          cases this) _ hyx
                        case measure => simp [valI]; omega
                      | true =>
                        obtain ⟨D, hown, hNum⟩ := hSx.edge r.1 hrm
                        have hst1 := hrest.1 rfl
                        have hownD : wx.drew.ownsMap Tryz.prog 3 (plainElem Tryz.prog 3) (Bs + r.1) (mostG R + 1) D := hown
                        obtain ⟨cc, hrun, hat, hwc⟩ := hownD.lookup_int (int_keyed Tryz.underlying3) Tryz.underlying69 Tryz.underlying3 (by kernel_rfl) (keyOf_int_mk Tryz.underlying3 (wfI (k := y) (by omega)))
                        go_wp2
                        clear hW1 hW2
                        have HR1 := hid' hrest; have HS1 := hid' hs1; have HS2 := hid' hs2; have HSZ := hid' hsz; have HX := hid' hX
                        clear hrest hs1 hs2 hsz hX
                        have i1 : (r.1 : Int) < (mostG R : Int) + 1 := by omega
                        have i2 : (0 : Int) ≤ (r.1 : Int) := by omega
                        have hccb : 0 ≤ cc ∧ cc ≤ (k * 100 + q : Nat) := by
                          have := hNum.look hat
                          by_cases h : F r.1 y
                          · have := this.1 h; omega
                          · have := this.2 h; omega
                        have hrl0 : R.length ≤ 100 := hlen
                        have hcc2 : cc ≤ 20000 := by omega
                        have hw64 : IntKind.i64.wrap (cc + 1) = cc + 1 := Go.Eng.wrap64_id (z := cc + 1) (by omega) (by omega)
                        have HWF : Hid ((Lit.int .i64 (IntKind.i64.wrap (cc + 1))).wf = true) := hid' (by rw [hw64]; exact wfZ (by omega) (by omega))
                        have HW64 := hid' hw64
                        clear hw64
                        go_still_tail 9, (by kernel_rfl)
                        change wpList _ _ _ _ _ wx.drew
                        go_wp2_with (at_mapUpdate; refine wpList_mapUpdate_own _ rfl _ _ _ 69 rfl 3 3 (int_keyed Tryz.underlying3) Tryz.underlying69 _ (Bs + r.1) (mostG R + 1) D rfl hownD (by unfold maxLen; omega) _ _ _ rfl rfl (keyOf_int_mk Tryz.underlying3 (wfI (k := y) (by omega))) _ [] (plainElem_int Tryz.underlying3 HWF.out) ?_; intro w4 hown4 hgrow4)
                        have hg4 : wx.grownBy w4 (some (Bs + r.1)) := ⟨hgrow4.os, hgrow4.tape, hgrow4.output, hgrow4.size, hgrow4.block⟩
                        rw [HW64.out] at hown4
                        have hNum4 := hNum.put (hown.tidy (int_keyed Tryz.underlying3)).isMap hyN (c := cc + 1) (M' := k * 100 + (q + 1)) (by omega) (by omega) (by omega)
                        have hS4 := hSx.upd (M' := k * 100 + (q + 1)) (by omega) hrm hg4 ⟨_, hNum4.tight (int_keyed Tryz.underlying3) hown4, hNum4⟩
                        refine ⟨⟨q + 1, _, by omega, by go_num, hid' ?_, hid' hS4, hid' fun i x => ?_⟩, by simp [valI]; omega⟩
                        · exact (hC3.out.trans (hyx.more fun _ _ h => h.elim)).trans (Chg.grown hg4 fun e he => by injection he with he; rw [← he]; exact hXB _ hrm)
                        · show (if i = r.1 then (fun z => F r.1 z ∨ z = y) else F i) x ↔ _
                          by_cases e : i = r.1
                          · subst e
                            rw [if_pos rfl]
                            show F r.1 x ∨ x = y ↔ _
                            rw [hF.out r.1 x]
                            constructor
                            · rintro ((h | ⟨h1, h2, p', hp', h3⟩) | rfl)
                              · exact .inl h
                              · exact .inr ⟨h1, h2, p', by omega, h3⟩
                              · exact .inr ⟨hyN, rfl, q, by omega, hst1⟩
                            · rintro (h | ⟨h1, h2, p', hp', h3⟩)
                              · exact .inl (.inl h)
                              · rcases Nat.lt_or_ge p' q with h | h
                                · exact .inl (.inr ⟨h1, h2, p', h, h3⟩)
                                · obtain rfl : p' = q := by omega
                                  right
                                  have := h3.1
                                  rw [hy] at this
                                  have : some y = some x := by injection this
                                  have : y = x := by injection this
                                  exact this.symm
                          · rw [if_neg e, hF.out i x]
                            constructor
                            · rintro (h | ⟨_, h2, _⟩)
                              · exact .inl h
                              · exact absurd h2.symm e
                            · rintro (h | ⟨_, h2, _⟩)
                              · exact .inl h
                              · exact absurd h2.symm e
                · have y1 : ((mostG R : Int) + 1 ≤ (y : Int)) := by omega
                  go_wp2
                  go_roundw
                  case rel => exact FIN0.out (fun x hx h => by have := h.1; rw [hy] at this; cases this; omega) _ (Chg.alloc _ _ _)
                  case measure => simp [valI]; omega
            · have hwy : Chg X wz wy := (hc1.more fun _ _ h => h.elim).trans hC3.out
              go_wp2
              refine ⟨⟨k + 1, F, by omega, by go_num, hid' (hC.out.trans hwy), hid' (hS3.out.more (by omega)), hid' fun i x => ?_⟩, by simp [valI]; omega⟩
              rw [hF.out i x, hEx.out i x, List.take_add_one, hr]
              constructor
              · rintro (⟨h1, r', hr', h2, h3⟩ | ⟨h1, h2, p, _, h3⟩)
                · exact ⟨h1, r', List.mem_append_left _ hr', h2, h3⟩
                · exact ⟨h1, r, List.mem_append_right _ (by simp), h2, p, h3⟩
              · rintro ⟨h1, r', hr', h2, p, h3⟩
                rcases List.mem_append.1 hr' with h | h
                · exact .inl ⟨h1, r', h, h2, p, h3⟩
                · have : r' = r := by simpa using h
                  subst this
                  exact .inr ⟨h1, h2, p, by have := (List.getElem?_eq_some_iff.1 h3.1).1; omega, h3⟩
        · have hRt : R.take k = R := List.take_of_length_le (by omega)
          have hN4 : ∀ r ∈ R, r.1 < mostG R + 1 := fun r hr => by have := mostG_le hr; omega
          have hE1 : ∀ i x, E i x ↔ x < mostG R + 1 ∧ Step R i x := fun i x => by
            rw [hEx.out i x, hRt, step_iff]
          have hSnd : Snd R (mostG R + 1) E := fun i x _ h => ⟨((hE1 i x).1 h).1, 1, .inl ((hE1 i x).1 h).2⟩
          have hLev : Lev R (mostG R + 1) 0 E := fun d i x hd hx hw => by
            rcases d with _ | d
            · exact hw.elim
            · have : d = 0 := by omega
              subst this
              rcases hw with h | ⟨m, h, _⟩
              · exact (hE1 i x).2 ⟨hx, h⟩
              · exact h.elim
          have hSz := hS.out.more (M' := 10001) (by omega)
          go_wp2
          have hXlt : ∀ x, X x → x < wz.heap.size := fun x h => by
            have := hC.out.size
            rw [hX] at h; obtain ⟨i, hi, rfl⟩ := h; omega
          clear hS hEx hE1 hrow
          have hkd := hkn
          go_loopw [115] (fun t W => ∃ (n : Nat) (F : Nat → Nat → Prop), n ≤ mostG R + 1 ∧ t = .int .i64 n ∧ Hid (Chg X wz W) ∧ Hid (St Tryz.prog 3 3 (w.heap.size + 1) W T (fun i => Bs + i) (mostG R + 1) 10001 F) ∧ Hid (Snd R (mostG R + 1) F) ∧ Hid (Lev R (mostG R + 1) n F)) (fun t _ => mostG R + 1 - (valI t).toNat)
          case atStart => exact ⟨0, E, Nat.zero_le _, rfl, hid' (Chg.refl _ _), hid' hSz, hid' hSnd, hid' hLev⟩
          case round =>
            rename World => wa
            obtain ⟨n, F, hn, rfl, hCa, hSa, hFs, hFl⟩ := hrel
            by_cases hnn : n < mostG R + 1
            · have n1 : (n : Int) < (mostG R : Int) + 1 := by omega
              go_wp2
              go_loopw [119] (fun t W => ∃ (i : Nat) (G : Nat → Nat → Prop), i ≤ mostG R + 1 ∧ t = .int .i64 i ∧ Hid (Chg X wa W) ∧ Hid (St Tryz.prog 3 3 (w.heap.size + 1) W T (fun i => Bs + i) (mostG R + 1) 10001 G) ∧ Hid (Snd R (mostG R + 1) G) ∧ Hid (∀ j x, F j x → G j x) ∧ Hid (∀ j, j < i → ∀ m x, F j m → F m x → G j x)) (fun t _ => mostG R + 1 - (valI t).toNat)
              case atStart => exact ⟨0, F, Nat.zero_le _, rfl, hid' (Chg.refl _ _), hSa, hFs, hid' (fun _ _ h => h), hid' (fun j hj => by omega)⟩
              case round =>
                rename World => wb
                obtain ⟨i, G, hi', rfl, hCb, hSb, hGs, hFG, hGd⟩ := hrel
                by_cases hin : i < mostG R + 1
                · have i1 : (i : Int) < (mostG R : Int) + 1 := by omega
                  have mI := hSb.out.row i hin
                  obtain ⟨Di, hownI, hNumI⟩ := hSb.out.edge i hin
                  go_wp2_with fail
                  refine (keys_calls _ _).mono ?_
                  rintro e w' ⟨rfl, rfl⟩
                  go_wp2_with fail
                  have hszI : Maps.size Di ≤ 10000 := by
                    have := hNumI.tight (int_keyed Tryz.underlying3) hownI
                    obtain ⟨es, clock, _, _, h1, h2⟩ := this
                    rw [h2]
                    show ((es.toList.map _).foldr DataW.insert []).length ≤ 10000
                    rw [length_sorted]; simp; omega
                  refine (collect_calls hownI hszI).mono ?_
                  rintro e w5 ⟨kv, ks, rfl, hperm, hrow5, hb5⟩
                  obtain ⟨ka, kc, hkv⟩ : ∃ a c, kv = .slice a ks.length c := by
                    rcases hrow5.2 with ⟨e, h0⟩ | ⟨g', cap, _, e, _⟩
                    · exact ⟨none, 0, by rw [e, h0]⟩
                    · exact ⟨_, _, e⟩
                  have hbN := hCb.out.size
                  have hc5 : Chg X wb w5 := by
                    refine ⟨hb5.os, hb5.tape, hb5.output, by have := hb5.size; simp at this; omega, fun kk hk _ => ?_⟩
                    exact (hb5.block kk (by omega)).trans (Below.heap_alloc _ _ _ hk)
                  have hS5 : St Tryz.prog 3 3 (w.heap.size + 1) w5 T (fun i => Bs + i) (mostG R + 1) 10001 G := hSb.out.kept hc5.size fun kk hk _ => (hb5.block kk (by omega)).trans (Below.heap_alloc _ _ _ hk)
                  have hkslen : ks.length ≤ 10000 := by
                    have := hperm.length_eq
                    obtain ⟨es, rfl⟩ := (hownI.tidy (int_keyed Tryz.underlying3)).isMap
                    have e2 : (intKeys (.map es)).length = es.length := by show (es.map _).length = _; simp
                    have e3 : Maps.size (.map es : DataW Unit) = es.length := rfl
                    omega
                  have hkcell : ∀ (j : Nat) z, ks[j]? = some z → ∃ bk, ka = some ⟨bk, 0, none⟩ ∧ wb.heap.size < bk ∧ w5.cell? ⟨bk, j, none⟩ = some (.int .i64 z) := fun j z hj => by
                    rcases hrow5.2 with ⟨_, h0⟩ | ⟨g', cap, cur, e, hlo, _⟩
                    · have := (List.getElem?_eq_some_iff.1 hj).1; omega
                    · rw [e] at hkv hrow5
                      have e : ka = some ⟨g', 0, none⟩ := by injection hkv with h; exact h.symm
                      refine ⟨g', e, by omega, ?_⟩
                      rw [hrow5.cellAt j (by have := (List.getElem?_eq_some_iff.1 hj).1; omega), List.getElem?_map, hj]; rfl
                  have HROW := hid' hrow5
                  clear hrow5
                  subst hkv
                  go_wp2
                  go_loopw [129] (fun t W => ∃ (q : Nat) (H : Nat → Nat → Prop), q ≤ ks.length ∧ t = .int .i64 q ∧ Hid (Chg X w5 W) ∧ Hid (St Tryz.prog 3 3 (w.heap.size + 1) W T (fun i => Bs + i) (mostG R + 1) 10001 H) ∧ Hid (Snd R (mostG R + 1) H) ∧ Hid (∀ j x, G j x → H j x) ∧ Hid (∀ j, j < q → ∀ m : Nat, ks[j]? = some (m : Int) → ∀ x, F m x → H i x)) (fun t _ => ks.length - (valI t).toNat)
                  case atStart => exact ⟨0, G, Nat.zero_le _, rfl, hid' (Chg.refl _ _), hid' hS5, hGs, hid' (fun _ _ h => h), hid' (fun j hj => by omega)⟩
                  case round =>
                    rename World => wc
                    obtain ⟨q, H, hq, rfl, hCc, hSc, hHs, hGH, hHd⟩ := hrel
                    by_cases hqn : q < ks.length
                    · obtain ⟨z, hz⟩ : ∃ z, ks[q]? = some z := ⟨_, List.getElem?_eq_getElem hqn⟩
                      obtain ⟨bk, rfl, hbk, hcz⟩ := hkcell q z hz
                      obtain ⟨m, rfl, hGm⟩ := mem_intKeys (int_keyed Tryz.underlying3) hownI hNumI z (hperm.mem_iff.1 (List.mem_of_getElem? hz))
                      have hmN : m < mostG R + 1 := hNumI.lt hGm
                      have hcz2 : wc.cell? ⟨bk, q, none⟩ = some (.int .i64 (m : Int)) := (World.cell?_of_block (hCc.out.block bk (lt_of_cellC hcz) (fun h => by have := hXlt _ h; have := hCa.out.size; omega))).trans hcz
                      have mM := hSc.out.row m hmN
                      obtain ⟨Dm, hownM, hNumM⟩ := hSc.out.edge m hmN
                      have j1 : (m : Int) < (mostG R : Int) + 1 := by omega
                      have q1 : (q : Int) < (ks.length : Int) := by omega
                      go_wp2_with (first
                        | (at_range; refine wpList_range_own _ rfl _ 69 rfl 3 3 (int_keyed Tryz.underlying3) Tryz.underlying69 _ (Bs + m) (mostG R + 1) Dm rfl hownM ?_; intro w0 hrg0 hg0 hs0)
                        | go_in)
                      go_frame
                      have hTc : T < wc.heap.size := hSc.out.lt
                      have hBc : ∀ j, j < mostG R + 1 → Bs + j < wc.heap.size := fun j hj => (hSc.out.edge j hj).lt
                      have hS0 : St Tryz.prog 3 3 (w.heap.size + 1) w0 T (fun i => Bs + i) (mostG R + 1) 10001 H := hSc.out.grown hg0 fun _ e => by cases e
                      go_loopw [16] (fun _ W => ∃ (left : Lit → Bool) (cnt : Nat) (D : DataW Unit) (J : Nat → Nat → Prop), Hid (W.ranges Tryz.prog 3 (plainElem Tryz.prog 3) (Bs + m) wc.heap.size (mostG R + 1) D left cnt) ∧ Hid (Num D (mostG R + 1) 10001 (J m)) ∧ Hid (St Tryz.prog 3 3 (w.heap.size + 1) W T (fun i => Bs + i) (mostG R + 1) 10001 J) ∧ Hid (Snd R (mostG R + 1) J) ∧ Hid (∀ j x, H j x → J j x) ∧ Hid (∀ x : Nat, F m x → left (kI x) = false → J i x) ∧ Hid (Chg (fun x => X x ∨ wc.heap.size ≤ x) wc W)) (fun _ W => W.rangeLeft (Bs + m) wc.heap.size)
                      case atStart =>
                        refine ⟨_, _, _, H, hid' hrg0, hid' hNumM, hid' hS0, hHs, hid' (fun _ _ h => h), hid' fun x hx hl => ?_, hid' (Chg.grown hg0 fun _ e => by cases e)⟩
                        rw [(hNumM.mem x).2 (hGH.out _ _ (hFG.out _ _ hx))] at hl
                        cases hl
                      case round =>
                        rename World => wd
                        obtain ⟨left, cnt, D, J, hrg, hNumJ, hSd, hJs, hHJ, hJd, hCd⟩ := hrel
                        go_wp2_with (first
                          | (at_next; refine wpList_next_ranges_ii _ rfl _ rfl 3 3 .i64 .i64 (int_keyed Tryz.underlying3) Tryz.underlying3 Tryz.underlying3 (Bs + m) wc.heap.size (mostG R + 1) _ _ _ rfl hrg.out ?_ ?_)
                          | go_in)
                        · intro hc0 hl0
                          go_wp2
                          refine ⟨⟨q + 1, J, by omega, by go_num, hid' (hCc.out.trans hCd.out.new), hSd, hJs, hid' (fun j x h => hHJ.out j x (hGH.out j x h)), hid' fun j hj m' hm' x hx => ?_⟩, by simp [valI]; omega⟩
                          rcases Nat.lt_or_ge j q with h | h
                          · exact hHJ.out _ _ (hHd.out j h m' hm' x hx)
                          · obtain rfl : j = q := by omega
                            rw [hz] at hm'
                            have : (m : Int) = (m' : Int) := by injection hm'
                            obtain rfl : m = m' := by omega
                            exact hJd.out x hx (hl0 _)
                        · intro x c w6 cnt6 hwx hwc hlx hat hrg6 hlt6 hg6 hs6 hen
                          obtain ⟨x', hx', ex⟩ := hNumJ.out.key _ (has_true_of_atKey hat)
                          have ex : x = (x' : Int) := by injection ex
                          subst ex
                          have hJm : J m x' := (hNumJ.out.mem x').1 (has_true_of_atKey hat)
                          have hS6 : St Tryz.prog 3 3 (w.heap.size + 1) w6 T (fun i => Bs + i) (mostG R + 1) 10001 J := hSd.out.grown hg6 fun kk e => by
                            injection e with e
                            subst e
                            exact ⟨by omega, fun j hj e => by have := hBc j hj; omega⟩
                          obtain ⟨J', hJ'⟩ : ∃ J' : Nat → Nat → Prop, J' = fun j => if j = i then (fun z => J i z ∨ z = x') else J j := ⟨_, rfl⟩
                          have hup : ∀ j z, J j z → J' j z := fun j z h => by
                            rw [hJ']
                            show (if j = i then (fun z => J i z ∨ z = x') else J j) z
                            by_cases e : j = i
                            · subst e; rw [if_pos rfl]; exact .inl h
                            · rw [if_neg e]; exact h
                          have hJi : J' i x' := by
                            rw [hJ']
                            show (if i = i then (fun z => J i z ∨ z = x') else J i) x'
                            rw [if_pos rfl]; exact .inr rfl
                          have hsn' : Snd R (mostG R + 1) J' := fun j z hj h => by
                            rw [hJ'] at h
                            have h : (if j = i then (fun z => J i z ∨ z = x') else J j) z := h
                            by_cases e : j = i
                            · rw [if_pos e] at h
                              subst e
                              rcases h with h | rfl
                              · exact hJs.out j z hj h
                              · exact hJs.out.join hj (hHJ.out j m (hGH.out j m hGm)) hJm
                            · rw [if_neg e] at h
                              exact hJs.out j z hj h
                          have hupd : ∃ w7 D7, (Instr.mapUpdate 69 (.map (some (Bs + i))) (.int .i64 (x' : Int)) (.int .i64 1)).run Tryz.prog w6 = .ok () w7 ∧ w7.ranges Tryz.prog 3 (plainElem Tryz.prog 3) (Bs + m) wc.heap.size (mostG R + 1) D7 (fun z => left z && !z.sameKey (.int .i64 (x' : Int))) cnt6 ∧ Num D7 (mostG R + 1) 10001 (J' m) ∧ St Tryz.prog 3 3 (w.heap.size + 1) w7 T (fun i => Bs + i) (mostG R + 1) 10001 J' ∧ w6.grownBy w7 (some (Bs + i)) := by
                            have hkey : keyOf Tryz.prog 3 (.int .i64 (x' : Int)) = some (kI x') := keyOf_int_mk Tryz.underlying3 (wfI (by omega))
                            have hone : plainElem (H := Unit) Tryz.prog 3 (.int .i64 1) = some (.lit (.int .i64 1), []) := plainElem_int Tryz.underlying3 (wfZ (by omega) (by omega))
                            by_cases him : i = m
                            · subst him
                              obtain ⟨w7, hr7, hrg7, hg7⟩ := ranges_put_old hrg6 (int_keyed Tryz.underlying3) Tryz.underlying69 hkey hone (has_true_of_atKey hat)
                              have hNum7 : Num (D.put (kI x') (.lit (.int .i64 1))) (mostG R + 1) 10001 (fun z => J i z ∨ z = x') := hNumJ.out.put (hrg6.owns.tidy (int_keyed Tryz.underlying3)).isMap hx' (by omega) (by omega) (by omega)
                              refine ⟨w7, _, hr7, hrg7, ?_, ?_, hg7⟩
                              · rw [hJ']; show Num _ _ _ (if i = i then (fun z => J i z ∨ z = x') else J i); rw [if_pos rfl]; exact hNum7
                              · rw [hJ']; exact hS6.upd (Nat.le_refl _) hin hg7 ⟨_, hrg7.owns, hNum7⟩
                            · obtain ⟨Di', hownI', hNumI'⟩ := hS6.edge i hin
                              obtain ⟨w7, hr7, how7, hg7⟩ := hownI'.update (int_keyed Tryz.underlying3) Tryz.underlying69 (by unfold maxLen; omega) hkey hone
                              have hNum7 : Num (Di'.put (kI x') (.lit (.int .i64 1))) (mostG R + 1) 10001 (fun z => J i z ∨ z = x') := hNumI'.put (hownI'.tidy (int_keyed Tryz.underlying3)).isMap hx' (by omega) (by omega) (by omega)
                              refine ⟨w7, D, hr7, hrg6.kept hg7 (fun e => by injection e with e; omega) (fun e => by injection e with e; have := hBc i hin; omega), ?_, ?_, hg7⟩
                              · rw [hJ']; show Num _ _ _ (if m = i then (fun z => J i z ∨ z = x') else J m); rw [if_neg (fun e => him e.symm)]; exact hNumJ.out
                              · rw [hJ']; exact hS6.upd (Nat.le_refl _) hin hg7 ⟨_, hNum7.tight (int_keyed Tryz.underlying3) how7, hNum7⟩
                          obtain ⟨w7, D7, hrun7, hrg7, hNum7, hS7, hg7⟩ := hupd
                          have mI6 := hS6.row i hin
                          have j2 : (i : Int) < (mostG R : Int) + 1 := by omega
                          have HJ' := hid' hJ'
                          clear hJ'
                          go_wp2
                          refine ⟨⟨_, cnt6, D7, J', hid' hrg7, hid' hNum7, hid' hS7, hid' hsn', hid' (fun j z h => hup j z (hHJ.out j z h)), hid' fun z hz hl => ?_, hid' ((hCd.out.trans (Chg.grown hg6 fun r e => by injection e with e; exact .inr (by omega))).trans (Chg.grown hg7 fun r e => by injection e with e; rw [← e]; exact .inl (hXB _ hin)))⟩, by rw [hrg7.left_eq, hrg.out.left_eq]; exact hlt6⟩
                          have hl : (left (kI z) && !(kI z).sameKey (.int .i64 (x' : Int))) = false := hl
                          by_cases e : z = x'
                          · rw [e]; exact hJi
                          · have hne : (kI z).sameKey (.int .i64 (x' : Int)) = false := sameKey_ne fun h => e (by
                              have : (z : Int) = (x' : Int) := congrArg Go.intOf h
                              omega)
                            rw [hne] at hl
                            exact hup _ _ (hJd.out z hz (by simpa using hl))
                    · go_wp2
                      go_roundw
                      case measure => simp [valI]; omega
                      case rel =>
                      refine ⟨i + 1, H, by omega, by go_num, hid' ((hCb.out.trans hc5).trans hCc.out), hSc, hHs, hid' (fun j x h => hGH.out j x (hFG.out j x h)), hid' fun j hj m x h1 h2 => ?_⟩
                      rcases Nat.lt_or_ge j i with h | h
                      · exact hGH.out _ _ (hGd.out j h m x h1 h2)
                      · obtain rfl : j = i := by omega
                        have h3 := hperm.mem_iff.2 (intKeys_mem hNumI (hFG.out j m h1))
                        obtain ⟨p, hp⟩ := List.getElem?_of_mem h3
                        exact hHd.out p (by have := (List.getElem?_eq_some_iff.1 hp).1; omega) m hp x h2
                · go_wp2
                  refine ⟨⟨n + 1, G, by omega, by go_num, hid' (hCa.out.trans hCb.out), hSb, hGs, hid' (hFl.out.next hN4 (fun j x _ h => hFG.out j x h) fun j hj m x h1 h2 => hGd.out j (by omega) m x h1 h2)⟩, by simp [valI]; omega⟩
            · have hnN : n = mostG R + 1 := by omega
              have hL : Lev R (mostG R + 1) (mostG R + 1) F := by have := hFl.out; rwa [hnN] at this
              clear hnN
              have hloop := hL.loop hN4 hFs.out
              go_wp2
              go_loopw [152] (fun t W => ∃ i : Nat, i ≤ mostG R + 1 ∧ t = .int .i64 i ∧ W = wa ∧ Hid (∀ j, j < i → ¬ F j j)) (fun t _ => mostG R + 1 - (valI t).toNat)
              case atStart => exact ⟨0, Nat.zero_le _, rfl, rfl, hid' (fun j hj => by omega)⟩
              case round =>
                obtain ⟨i, hi', rfl, rfl, hNo⟩ := hrel
                have hBel : Below w.heap.size w wr := ((hwq.trans (hC.out.below (fun q hq e => by have := hXlo q e; omega) (by omega)))).trans (hCa.out.below (fun q hq e => by have := hXlo q e; omega) (by have := hC.out.size; omega))
                by_cases hin : i < mostG R + 1
                · have mI := hSa.out.row i hin
                  obtain ⟨D, hown, hNum⟩ := hSa.out.edge i hin
                  obtain ⟨cc, hrun, hat, hwc⟩ := hown.lookup_int (int_keyed Tryz.underlying3) Tryz.underlying69 Tryz.underlying3 (by kernel_rfl) (keyOf_int_mk Tryz.underlying3 (wfI (k := i) (by omega)))
                  have hlk := hNum.look hat
                  have j1 : (i : Int) < (mostG R : Int) + 1 := by omega
                  by_cases hF : F i i
                  · have h0 : 0 < cc := (hlk.1 hF).1
                    go_wp2
                    refine bodyPost_ret (results_tmp rfl _ _ _) rfl ⟨true, rfl, ⟨fun _ => hloop.1 ⟨i, hin, hF⟩, fun _ => rfl⟩, hBel⟩
                  · have h0 : ¬ (0 < cc) := by have := hlk.2 hF; omega
                    go_wp2
                    refine ⟨⟨i + 1, by omega, by go_num, trivial, hid' fun j hj => ?_⟩, by simp [valI]; omega⟩
                    rcases Nat.lt_or_ge j i with h | h
                    · exact hNo.out j h
                    · obtain rfl : j = i := by omega
                      exact hF
                · go_wp2
                  refine bodyPost_ret (results_tmp rfl _ _ _) rfl ⟨false, rfl, ⟨fun h => (by cases h), fun h => ?_⟩, hBel⟩
                  obtain ⟨j, hj, hF⟩ := hloop.2 h
                  exact absurd hF (hNo.out j (by omega))
end Go.Proofs.YtddeekefomhbmaaGreatDoor
