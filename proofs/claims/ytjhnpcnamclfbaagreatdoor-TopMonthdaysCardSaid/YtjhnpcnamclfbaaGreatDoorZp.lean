/- The periods of a rule, an iterator. No condition. -/
import Derived.Test.YtjhnpcnamclfbaaGreatDoorNc
import Derived.Test.YtjhnpcnamclfbaaGreatDoorZl
import Derived.RangeFuncBox
import Derived.OwnWalkIn
import Derived.TacticsInMore
import Derived.LoopNIn
import Derived.LoopIn
namespace Go.Proofs.YtjhnpcnamclfbaaGreatDoor
open Go Go.Eng Go.RowKit Go.Shelf
attribute [local go_sem] Oper.semAt_some

theorem nextsN_none {f : Int} {s : SpT} : ∀ {i j : Nat}, nextsN f i s = none → i ≤ j → nextsN f j s = none := fun {i j} h hij => by
  induction hij with
  | refl => exact h
  | step _ ih => rw [nextsN_succ, ih]; rfl
theorem periods_calls (cs : Array Value) (d : Int) (w : World) : Calls Tryz.prog 138 #[.agg cs, .int .i64 d] w fun e w' => e = .returned (.func (.func 206) #[] #[.pointer (some ⟨w.heap.size, 0, none⟩), .pointer (some ⟨w.heap.size + 1, 0, none⟩)]) ∧ w' = (w.alloc (.cells cs 124)).alloc (.cells #[.int .i64 d] 26) := by
  have tR := Tryz.underlying124; have aR := Tryz.isAgg124; have zR := Tryz.sizeOf124; have uR := run_underlying Tryz.underlying124
  go_enter Tryz.func138, Tryz.ntmps138
  go_wp2
  go_ret
  exact ⟨by simp, rfl⟩
theorem setCell_ne {A : World} {a : Addr} {v : Value} {k : Nat} (h : a.block ≠ k) : (A.setCell a v).heap[k]? = A.heap[k]? := by
  simp [World.setCell, Array.getElem?_modify, h]
theorem setCell_size (A : World) (a : Addr) (v : Value) : (A.setCell a v).heap.size = A.heap.size := by simp [World.setCell]
theorem chgSet (A : World) (a : Addr) (v : Value) {X : Nat → Prop} (h : X a.block) : Chg X A (A.setCell a v) :=
  ⟨rfl, rfl, rfl, by rw [setCell_size]; exact Nat.le_refl _, fun k _ hk => setCell_ne fun e => hk (e ▸ h)⟩
theorem chgSet2 (A : World) (B : Nat) (x y : Value) {X : Nat → Prop} (h : X B) : Chg X A ((A.setCell ⟨B, 0, none⟩ x).setCell ⟨B, 1, none⟩ y) :=
  (chgSet A ⟨B, 0, none⟩ x h).trans (chgSet _ ⟨B, 1, none⟩ y h)
set_option maxRecDepth 100000 in
set_option maxHeartbeats 4000000 in
theorem periods_iter (n : Nat) (hn : 2 ≤ n) (W0 : World) (hV : Vars gl W0) (br bs base : Nat) (cs : Array Value) (f : Int) (k : Nat) (hk1 : 1 ≤ k) (hk2 : k ≤ 100000) (hc0 : cs[0]? = some (.int .i64 f)) (hc1 : cs[1]? = some (.int .i64 (k : Int))) (a : Nat) (a1 : 1 ≤ a) (a2 : a ≤ lastN) :
    IterR Fence.wide n Tryz.prog 206 #[.pointer (some ⟨br, 0, none⟩), .pointer (some ⟨bs, 0, none⟩)] spV (fun j => j = br ∨ j = bs ∨ j < W0.heap.size)
      (fun W => Below W0.heap.size W0 W ∧ W.heap[br]? = some (.cells cs 124) ∧ W.heap[bs]? = some (.cells #[.int .i64 (a : Int)] 26))
      (fun xs => Beg f k (spT f a a1 a2) xs ∧ xs.length ≤ lastN ∧ atN f k (spT f a a1 a2) xs.length = none) (fun xs => Beg f k (spT f a a1 a2) xs ∧ xs.length ≤ lastN) (lastN + 1) base := by
  intro l J Jx W O ⟨hB, q1, q2⟩ hb hC hO hJ hJx hY h0
  have tS := Tryz.underlying209; have aS := Tryz.isAgg209; have zS := Tryz.sizeOf209; have uS := run_underlying Tryz.underlying209
  refine callsIn_of_wp Tryz.func206 rfl trivial ?_ rfl
  simp only [Tryz.ntmps206, List.size_toArray, List.length_cons, List.length_nil, Nat.reduceAdd, Nat.reduceSub, Array.replicate_succ, Array.replicate_zero, List.push_toArray, List.append_toArray, List.nil_append, List.cons_append]
  have h1 : 1 ≤ n := by omega
  have r0 : W.cell? ⟨br, 0, none⟩ = some (.int .i64 f) := by simp [World.cell?, q1, hc0]
  have r1 : W.cell? ⟨bs, 0, none⟩ = some (.int .i64 (a : Int)) := by simp [World.cell?, q2]
  have hP : ∀ (m : Nat) W1, 1 ≤ m → m ≤ lastN → Below W0.heap.size W0 W1 → Calls Tryz.prog 207 #[.int .i64 f, .int .i64 (m : Int)] W1 _ := fun m W1 m1 m2 hW => period_calls f m1 m2 (Varsb hV hW)
  have hPa := hP a W a1 a2 hB
  gi_wp2_with (refine ⟨trivial, ?_⟩; refine (callsIn_wide.2 hPa).mono ?_; rintro e w' ⟨rfl, hb'⟩)
  obtain ⟨B, hBd⟩ : ∃ B, B = w'.heap.size := ⟨_, rfl⟩
  obtain ⟨s0, hs0⟩ : ∃ s0, s0 = spT f a a1 a2 := ⟨_, rfl⟩
  have e0 : perN f a = s0.1 := by rw [hs0]; rfl
  rw [e0, ← hBd]
  have lt1 : br < W.heap.size := (Array.getElem?_eq_some_iff.1 q1).1
  have lt2 : bs < W.heap.size := (Array.getElem?_eq_some_iff.1 q2).1
  have hBw : W.heap.size ≤ B := by rw [hBd]; exact hb'.size
  have hW0B : W0.heap.size ≤ B := Nat.le_trans hB.size hBw
  have hX : Chg (fun _ => False) W (w'.alloc (.cells #[.int .i64 (s0.1.1 : Int), .int .i64 (s0.1.2 : Int)] 209)) := (⟨hb'.os, hb'.tape, hb'.output, hb'.size, fun k hk _ => hb'.block k hk⟩ : Chg (fun _ => False) W w').trans (Chg.alloc _ _ _)
  have hBox : Box2 (w'.alloc (.cells #[.int .i64 (s0.1.1 : Int), .int .i64 (s0.1.2 : Int)] 209)) B 209 (.int .i64 (s0.1.1 : Int)) (.int .i64 (s0.1.2 : Int)) := by rw [hBd]; exact Box2.new w' _ _ _
  obtain ⟨W1, hW1⟩ : ∃ W1, W1 = w'.alloc (.cells #[.int .i64 (s0.1.1 : Int), .int .i64 (s0.1.2 : Int)] 209) := ⟨_, rfl⟩
  rw [← hW1] at hX hBox ⊢
  -- what lies there in each round
  obtain ⟨Keep, hKeep⟩ : ∃ Keep : (Nat → Prop) → World → Prop, Keep = fun O1 wr => Below W0.heap.size W0 wr ∧ wr.heap[br]? = some (.cells cs 124) ∧ wr.heap[bs]? = some (.cells #[.int .i64 (a : Int)] 26) ∧ (¬ O1 B ∧ ∀ j, (j = br ∨ j = bs ∨ j < W0.heap.size) → ¬ O1 j) := ⟨_, rfl⟩
  obtain ⟨Inv, hInv⟩ : ∃ Inv : World → Prop, Inv = fun wr => ∃ (pre : List SpT) (s : SpT) (O1 : Nat → Prop), J O1 pre wr ∧ Beg f k s0 pre ∧ atN f k s0 pre.length = some s ∧ Box2 wr B 209 (.int .i64 (s.1.1 : Int)) (.int .i64 (s.1.2 : Int)) ∧ Keep O1 wr := ⟨_, rfl⟩
  have hI0 : Inv W1 := by
    rw [hInv]
    refine ⟨[], s0, O, hJ _ _ _ _ h0 (hX.more fun _ _ h => h.elim), Beg.nil _ _ _, rfl, hBox, ?_⟩
    rw [hKeep]
    refine ⟨hB.trans ⟨hX.os, hX.tape, hX.output, hX.size, fun j hj => hX.block j (Nat.lt_of_lt_of_le hj hB.size) (fun h => h)⟩, (hX.block _ lt1 (fun h => h)).trans q1, (hX.block _ lt2 (fun h => h)).trans q2, fun h => by have := hO _ h; omega, fun j hj => (hC j hj).1⟩
  have HInv := hidZ hInv
  have HKeep := hidZ hKeep
  have HS0 := hidZ hs0
  clear hB q1 q2 r0 r1 hPa hX hBox hb' e0 h0 hW1 hBd hInv hKeep hs0
  gi_loopw [14] (fun _ wr => Hid (Inv wr))
    (fun _ wr => match wr.cell? ⟨B, 1, none⟩ with | some (.int _ z) => lastN + 1 - z.toNat | _ => 0)
  case atStart => exact hidZ hI0
  case round =>
    have hr0 := hrel.out
    clear hrel
    rw [HInv.out] at hr0
    obtain ⟨pre, s, O1, hJ1, hbeg, hat, hbox, hkp⟩ := hr0
    have hk0 := hkp
    rw [HKeep.out] at hk0
    obtain ⟨p1, p2, p3, p4, p5⟩ := hk0
    have hlen := atN_le hk1 hat
    have hs2 := s.2
    have k0 := hbox.c0
    have k1 := hbox.c1
    obtain ⟨fn, tmps, assign, body, hy, hR⟩ := hY pre s wr O1 hJ1 (by omega)
    dsimp only [spV] at hy
    gi_wp2
    refine hR.mono ?_
    rintro e W3 (⟨rfl, O2, hJ3, hr3⟩ | ⟨rfl, O2, hJ3, hr3⟩)
    · -- on to the next period
      have nk : ∀ j, j < wr.heap.size → ¬ O1 j → ¬ O2 j := fun j hj hn h => by rcases hr3.2 j h with h | h <;> first | exact hn h | omega
      have bl : ∀ {j : Nat} {o : Obj}, wr.heap[j]? = some o → ¬ O1 j → W3.heap[j]? = some o := fun {j o} hj hn => (hr3.1.block j (Array.getElem?_eq_some_iff.1 hj).1 hn).trans hj
      have hbox3 : Box2 W3 B 209 (.int .i64 (s.1.1 : Int)) (.int .i64 (s.1.2 : Int)) := bl hbox p4
      have hB3 : Below W0.heap.size W0 W3 := p1.trans ⟨hr3.1.os, hr3.1.tape, hr3.1.output, hr3.1.size, fun j hj => hr3.1.block j (Nat.lt_of_lt_of_le hj p1.size) (p5 j (.inr (.inr hj)))⟩
      have c2 : W3.heap[br]? = some (.cells cs 124) := bl p2 (p5 br (.inl rfl))
      have c3 : W3.heap[bs]? = some (.cells #[.int .i64 (a : Int)] 26) := bl p3 (p5 bs (.inr (.inl rfl)))
      have n4 : ¬ O2 B := nk B hbox.lt p4
      have n5 : ∀ j, (j = br ∨ j = bs ∨ j < W0.heap.size) → ¬ O2 j := fun j hj => nk j (by
        have l1 := (Array.getElem?_eq_some_iff.1 p2).1
        have l2 := (Array.getElem?_eq_some_iff.1 p3).1
        have := p1.size
        rcases hj with rfl | rfl | h <;> omega) (p5 j hj)
      have hcell : ∀ {A : World}, A.heap[br]? = some (.cells cs 124) → A.cell? ⟨br, 0, none⟩ = some (.int .i64 f) ∧ A.cell? ⟨br, 1, none⟩ = some (.int .i64 (k : Int)) := fun {A} h => by simp [World.cell?, h, hc0, hc1]
      have k13 := (hcell c2).2
      have HIn : Hid (∃ u : SpT, nextsN f 0 s = some u ∧ Box2 W3 B 209 (.int .i64 (u.1.1 : Int)) (.int .i64 (u.1.2 : Int)) ∧ Below W0.heap.size W0 W3 ∧ W3.heap[br]? = some (.cells cs 124) ∧ W3.heap[bs]? = some (.cells #[.int .i64 (a : Int)] 26) ∧ J O2 (pre ++ [s]) W3) := hidZ ⟨s, rfl, hbox3, hB3, c2, c3, hJ3⟩
      have HB := hidZ hbeg
      have hLen := hidZ (show pre.length + 1 ≤ lastN by omega)
      have HA := hidZ hat
      have hbs : B < W3.heap.size := hbox3.lt
      have HN := hidZ (show ∀ j, O2 j → j ≠ B ∧ j ≠ br ∧ j ≠ bs ∧ W0.heap.size ≤ j from fun j hj => ⟨fun h => n4 (h ▸ hj), fun h => n5 j (.inl h) hj, fun h => n5 j (.inr (.inl h)) hj, by
        rcases Nat.lt_or_ge j W0.heap.size with h | h
        · exact absurd hj (n5 j (.inr (.inr h)))
        · exact h⟩)
      have hkk : (0 : Int) ≤ (k : Int) := by omega
      clear hJ1 hbeg hat hbox hkp p1 p2 p3 p4 p5 k0 hy hR hJ3 hr3 nk bl hbox3 hB3 c2 c3 n4 n5 hlen
      gi_wp2
      gi_loopw [14] (fun i wq => ∃ j : Nat, j ≤ k ∧ i = .int .i64 (j : Int) ∧ Hid (∃ u : SpT, nextsN f j s = some u ∧ Box2 wq B 209 (.int .i64 (u.1.1 : Int)) (.int .i64 (u.1.2 : Int)) ∧ Below W0.heap.size W0 wq ∧ wq.heap[br]? = some (.cells cs 124) ∧ wq.heap[bs]? = some (.cells #[.int .i64 (a : Int)] 26) ∧ J O2 (pre ++ [s]) wq)) (fun i _ => k - (vZ i).toNat)
      case atStart => exact ⟨0, Nat.zero_le _, rfl, HIn⟩
      case round =>
        rename World => wq
        obtain ⟨j, hj, rfl, HQ⟩ := hrel
        obtain ⟨u, hu, hbox, hBq, c2, c3, hJq⟩ := HQ.out
        have kq1 := hbox.c1
        have HU := hidZ hu
        have hu2 := u.2
        clear hu
        obtain ⟨r0, _⟩ := hcell c2
        by_cases hjk : j < k
        · have i1 : (j : Int) < (k : Int) := by omega
          by_cases hl : lastN ≤ u.1.2
          · have i2 : (3652059 : Int) ≤ (u.1.2 : Int) := by have : (3652059 : Nat) ≤ u.1.2 := hl; omega
            gi_wp2
            refine bodyPost_ret (results_none rfl _ _ _) rfl ?_
            have hnn : nextsN f (j + 1) s = none := by
              rw [nextsN_succ, HU.out]
              show nextN f u = none
              unfold nextN
              rw [dif_neg (by omega)]
            have hnk := nextsN_none hnn (show j + 1 ≤ k by omega)
            have hsb := Beg.snoc HB.out HA.out
            refine ⟨⟨_, rfl⟩, .inl ⟨pre ++ [s], O2, ⟨?_, ?_, ?_⟩, hJq⟩⟩
            · rw [← HS0.out]; exact hsb
            · rw [List.length_append, List.length_singleton]; exact hLen.out
            · rw [← HS0.out, List.length_append, List.length_singleton]
              show (atN f k s0 pre.length).bind (nextsN f k) = none
              rw [HA.out]; exact hnk
          · have i2 : ¬ (3652059 : Int) ≤ (u.1.2 : Int) := by have : ¬ (3652059 : Nat) ≤ u.1.2 := hl; omega
            have hPq := hP (u.1.2 + 1) wq (by omega) (by show u.1.2 + 1 ≤ lastN; omega) hBq
            rw [show ((u.1.2 + 1 : Nat) : Int) = (u.1.2 : Int) + 1 by omega] at hPq
            have m1 : 1 ≤ u.1.2 + 1 := by omega
            have m2 : u.1.2 + 1 ≤ lastN := by omega
            obtain ⟨t, ht⟩ : ∃ t, t = spT f (u.1.2 + 1) m1 m2 := ⟨_, rfl⟩
            have et : perN f (u.1.2 + 1) = t.1 := by rw [ht]; rfl
            rw [et] at hPq
            have hnx : nextN f u = some t := by unfold nextN; rw [dif_pos (show u.1.2 < lastN by omega), ht]
            have HT := hidZ hnx
            clear ht et hnx
            gi_wp2_with (refine ⟨trivial, ?_⟩; refine (callsIn_wide.2 hPq).mono ?_; rintro e w5 ⟨rfl, hb5⟩; have hbox5 := hbox.keep (hb5.block _ hbox.lt); have k05 := hbox5.c0; have k15 := hbox5.c1; have f05 := hbox5.frozen 0; have f15 := hbox5.frozen 1)
            have c2' := (hb5.block br (Array.getElem?_eq_some_iff.1 c2).1).trans c2
            have c3' := (hb5.block bs (Array.getElem?_eq_some_iff.1 c3).1).trans c3
            have hne1 : B ≠ br := by omega
            have hne2 : B ≠ bs := by omega
            have hB6 := hBq.trans (hb5.mono hBq.size)
            have hch : Chg (fun j => base ≤ j ∧ ¬ O2 j) wq ((w5.setCell ⟨B, 0, none⟩ (.int .i64 (t.1.1 : Int))).setCell ⟨B, 1, none⟩ (.int .i64 (t.1.2 : Int))) :=
              (⟨hb5.os, hb5.tape, hb5.output, hb5.size, fun j hj _ => hb5.block j hj⟩ : Chg (fun j => base ≤ j ∧ ¬ O2 j) wq w5).trans (chgSet2 w5 B _ _ ⟨by omega, fun h => (HN.out _ h).1 rfl⟩)
            refine ⟨⟨j + 1, by omega, by go_num, hidZ ⟨t, ?_, (hbox5.set0 _).set1 _, belowSet (belowSet hB6 ⟨B, 0, none⟩ _ hW0B) ⟨B, 1, none⟩ _ hW0B, ?_, ?_, hJ _ _ _ _ hJq hch⟩⟩, by simp [vZ]; omega⟩
            · rw [nextsN_succ, HU.out]
              exact HT.out
            · rw [setCell_ne (by exact hne1), setCell_ne (by exact hne1)]; exact c2'
            · rw [setCell_ne (by exact hne2), setCell_ne (by exact hne2)]; exact c3'
        · have i1 : ¬ (j : Int) < (k : Int) := by omega
          have hjk : j = k := by omega
          subst hjk
          gi_wp2
          rw [kq1, k1]
          refine ⟨hidZ ?_, ?_⟩
          · rw [HInv.out]
            refine ⟨pre ++ [s], u, O2, hJq, Beg.snoc HB.out HA.out, ?_, hbox, ?_⟩
            · rw [List.length_append, List.length_singleton]
              show (atN f j s0 pre.length).bind (nextsN f j) = _
              rw [HA.out]; exact HU.out
            · rw [HKeep.out]
              exact ⟨hBq, c2, c3, fun h => (HN.out _ h).1 rfl, fun i hi h => by
                obtain ⟨_, q1, q2, q3⟩ := HN.out _ h
                rcases hi with hi | hi | hi
                · exact q1 hi
                · exact q2 hi
                · omega⟩
          · have := nextsN_lt HU.out
            simp only [Int.toNat_natCast]
            omega
    · gi_wp2
      go_end0
      exact ⟨⟨_, rfl⟩, .inr ⟨pre ++ [s], O2, ⟨HS0.out ▸ Beg.snoc hbeg hat, by rw [List.length_append, List.length_singleton]; omega⟩, hJ3⟩⟩
end Go.Proofs.YtjhnpcnamclfbaaGreatDoor
