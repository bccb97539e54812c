/- To which left sides one may come alone, by the document's own words. No condition. -/
import Derived.Test.YtddeekefomhbmaaGreatDoorAv
namespace Go.Proofs.YtddeekefomhbmaaGreatDoor
open Go Go.RowKit Go.Shelf
attribute [local go_sem] Oper.semAt_some

/-- What a call of 'alone' hands back. -/
def AloneAt (W w' : World) (R : List GRule) (d n : Nat) (v : Value) : Prop := ∃ xs : List Int, w'.ownsRow W.heap.size 3 1 v xs.length (xs.map (Value.int .i64)) ∧ xs.length ≤ 4 ∧ (∀ x ∈ xs, 0 ≤ x ∧ x < 4) ∧ ∀ k : Nat, (k : Int) ∈ xs ↔ Ahd R d n k

set_option maxRecDepth 100000 in
set_option maxHeartbeats 4000000 in
theorem alone_calls (R : List GRule) (hlen : R.length ≤ 10) (hrl : ∀ r ∈ R, r.2.length ≤ 4) (hlt : ∀ r ∈ R, ∀ k, some k ∈ r.2 → k < 4) (h5 : ∀ k, nul R 5 k = true ↔ Nul R k) : ∀ (d n : Nat) (a : Option Addr) (c : Nat) (w : World), d ≤ 100 → LiesG w a c R →
    Calls Tryz.prog 29 #[.agg #[.slice a R.length c], .int .i64 (n : Int), .int .i64 (d : Int)] w fun e w' => ∃ v, e = .returned v ∧ AloneAt w w' R d n v ∧ Below w.heap.size w w' := by
  have t330 := Tryz.underlying27; have a330 := Tryz.isAgg27; have z330 := Tryz.sizeOf27; have u330 := run_underlying Tryz.underlying27
  have t402 := Tryz.underlying39; have a402 := Tryz.isAgg39; have z402 := Tryz.sizeOf39; have u402 := run_underlying Tryz.underlying39
  have t404 := Tryz.underlying66; have a404 := Tryz.isAgg66; have z404 := Tryz.sizeOf66; have u404 := run_underlying Tryz.underlying66
  obtain ⟨i0, hi, hz0, hz1, hz2⟩ := info_parts info3
  intro d
  induction d with
  | zero =>
    intro n a c w hd hG
    go_enter Tryz.func29, Tryz.ntmps29
    go_wp2
    exact bodyPost_ret (results_tmp rfl _ _ _) rfl ⟨_, rfl, ⟨[], World.ownsRow_nil _ _ _ _, by decide, fun x hx => (by cases hx), fun k => ⟨fun h => (by cases h), fun h => h.elim⟩⟩, (Below.refl _ w).alloc (Nat.le_refl _) _⟩
  | succ d ih =>
    intro n a c w hd hG
    generalize hD : ((d + 1 : Nat) : Int) = D
    have d1 : (D == 0) = false := by
      cases h : (D == 0) with
      | false => rfl
      | true => have : D = 0 := by simpa using h
                omega
    have d2 : D - 1 = (d : Int) := by omega
    have d3 : D ≤ 101 := by omega
    have d4 : 1 ≤ D := by omega
    clear hD
    have hih : ∀ (m : Nat) (W : World), Below w.heap.size w W → Calls Tryz.prog 29 #[.agg #[.slice a R.length c], .int .i64 (m : Int), .int .i64 (d : Int)] W fun e w' => ∃ v, e = .returned v ∧ AloneAt W w' R d m v ∧ Below W.heap.size W w' := fun m W hW => ih m a c W (by omega) (hG.at hW)
    clear ih
    have hemp : ∀ (m : Nat) (W : World), Below w.heap.size w W → Calls Tryz.prog 14 #[.agg #[.slice a R.length c], .int .i64 (m : Int), .int .i64 5] W fun e w' => e = .returned (.bool (nul R 5 m)) ∧ Below W.heap.size W w' := fun m W hW => emptyL_calls R (by omega) (fun r hr => by have := hrl r hr; omega) 5 m a c W (by omega) (hG.at hW)
    have bx : Below w.heap.size w (w.alloc (.cells #[.slice a R.length c] 27)) := (Below.refl _ w).alloc (Nat.le_refl _) _
    have kx : Boxed (w.alloc (.cells #[.slice a R.length c] 27)) w.heap.size 27 (.slice a R.length c) := Boxed.new w _ _
    go_enter Tryz.func29, Tryz.ntmps29
    go_wp2
    generalize hW0 : w.alloc (.cells #[.slice a R.length c] 27) = W0 at bx kx
    have hs0 : W0.heap.size = w.heap.size + 1 := by rw [← hW0]; simp
    clear hW0
    have bt : ∀ {W : World}, Below W0.heap.size W0 W → Below w.heap.size w W := fun h => bx.trans (h.mono bx.size)
    have kg : ∀ {W : World}, Below W0.heap.size W0 W → W.cell? ⟨w.heap.size, 0, none⟩ = some (.slice a R.length c) := fun h => (h.cell (p := ⟨w.heap.size, 0, none⟩) kx.lt).trans kx.cell
    go_loopw [7, 23] (fun u i W => ∃ (k : Nat) (xs : List Int), k ≤ R.length ∧ i = .int .i64 k ∧ Hid (W.ownsRow W0.heap.size 3 1 u xs.length (xs.map (Value.int .i64))) ∧ Hid (xs.length ≤ k * 4) ∧ Hid (∀ x ∈ xs, 0 ≤ x ∧ x < 4) ∧ Hid (∀ m : Nat, (m : Int) ∈ xs ↔ ∃ r ∈ R.take k, r.1 = n ∧ ∃ p, Step1 R r p m) ∧ Hid (Below W0.heap.size W0 W)) (fun _ i _ => R.length - (valI i).toNat)
    case atStart => exact ⟨0, [], Nat.zero_le _, rfl, hid' (World.ownsRow_nil _ _ _ _), hid' (Nat.zero_le _), hid' (fun x hx => by cases hx), hid' (fun m => ⟨fun h => (by cases h), fun ⟨r, hr, _⟩ => by simp at hr⟩), hid' (Below.refl _ _)⟩
    case round =>
      rename World => wq
      obtain ⟨k, xs, hk, rfl, hO, hL, hR4, hM, hB⟩ := hrel
      by_cases hkn : k < R.length
      · obtain ⟨r, hr⟩ : ∃ r, R[k]? = some r := ⟨_, List.getElem?_eq_getElem hkn⟩
        obtain ⟨b, rfl, sx, sc, t, hcell, hsym⟩ := hG.rule hr
        obtain ⟨c1, c2, c3⟩ := hcell wq (bt hB.out)
        have hrl' : r.2.length ≤ 4 := hrl r (List.mem_of_getElem? hr)
        have hrm : r ∈ R := List.mem_of_getElem? hr
        have k1 : (k : Int) < (R.length : Int) := by omega
        have hmore : ∀ m : Nat, (∃ r' ∈ R.take (k + 1), r'.1 = n ∧ ∃ p, Step1 R r' p m) ↔ (∃ r' ∈ R.take k, r'.1 = n ∧ ∃ p, Step1 R r' p m) ∨ (r.1 = n ∧ ∃ p, Step1 R r p m) := fun m => by
          rw [List.take_add_one, hr]
          constructor
          · rintro ⟨r', h1, h2⟩
            rcases List.mem_append.1 h1 with h | h
            · exact .inl ⟨r', h, h2⟩
            · have : r' = r := by simpa using h
              subst this; exact .inr h2
          · rintro (⟨r', h1, h2⟩ | h2)
            · exact ⟨r', List.mem_append_left _ h1, h2⟩
            · exact ⟨r, List.mem_append_right _ (by simp), h2⟩
        have HMORE := hid' hmore
        clear hmore
        by_cases hrn : r.1 = n
        · have e1 : ((r.1 : Int) != (n : Int)) = false := by subst hrn; simp
          have HRN := hid' hrn
          clear hrn
          go_wp2
          obtain ⟨W1, hW1⟩ : ∃ W1, (wq.alloc (.cells #[.int .i64 (r.1 : Int), .slice sx r.2.length sc, .int .i64 t] 39)) = W1 := ⟨_, rfl⟩
          rw [hW1]
          have hb9 : Box3 W1 wq.heap.size 39 (.int .i64 (r.1 : Int)) (.slice sx r.2.length sc) (.int .i64 t) := by rw [← hW1]; exact Box3.new _ _ _ _ _
          have b1 : Below W0.heap.size W0 W1 := by rw [← hW1]; exact hB.out.alloc hB.out.size _
          have hO1 := hO.out.alloc (.cells #[.int .i64 (r.1 : Int), .slice sx r.2.length sc, .int .i64 t] 39)
          rw [hW1] at hO1
          clear hW1
          have hqs : wq.heap.size < W1.heap.size := hb9.lt
          have hbq : W0.heap.size ≤ wq.heap.size := hB.out.size
          go_loopw [7, 34] (fun u j W => ∃ (q : Nat) (ys : List Int), q ≤ r.2.length ∧ j = .int .i64 q ∧ Hid (W.ownsRow W0.heap.size 3 1 u ys.length (ys.map (Value.int .i64)) ∧ u.ownBlock ≠ some wq.heap.size) ∧ Hid (ys.length ≤ k * 4 + q) ∧ Hid (∀ x ∈ ys, 0 ≤ x ∧ x < 4) ∧ Hid (∀ m : Nat, (m : Int) ∈ ys ↔ (m : Int) ∈ xs ∨ ∃ p, p < q ∧ Step1 R r p m) ∧ Hid (Below W0.heap.size W0 W) ∧ Hid (Box3 W wq.heap.size 39 (.int .i64 (r.1 : Int)) (.slice sx r.2.length sc) (.int .i64 t))) (fun _ j _ => r.2.length - (valI j).toNat)
          case atStart => exact ⟨0, xs, Nat.zero_le _, rfl, hid' ⟨hO1, fun e => by have := (hO.out.lt _ e).2; omega⟩, hid' (by have := hL.out; omega), hR4, hid' (fun m => ⟨.inl, fun h => h.resolve_right fun ⟨p, hp, _⟩ => by omega⟩), hid' b1, hid' hb9⟩
          case round =>
            rename World => wz
            obtain ⟨q, ys, hq, rfl, hO2, hL2, hY4, hM2, hB2, hX2⟩ := hrel
            by_cases hqn : q < r.2.length
            · obtain ⟨y, hy⟩ : ∃ y, r.2[q]? = some y := ⟨_, List.getElem?_eq_getElem hqn⟩
              obtain ⟨b2, rfl, hsy⟩ := hsym q y hy
              have q1 : (q : Int) < (r.2.length : Int) := by omega
              have k0 := hX2.out.c1
              have fin0 : (∀ m : Nat, ¬ Step1 R r q m) → Hid (∀ m : Nat, (m : Int) ∈ ys ↔ (m : Int) ∈ xs ∨ ∃ p, p < q + 1 ∧ Step1 R r p m) := fun hno => hid' fun m => by
                rw [hM2.out m]
                constructor
                · rintro (h | ⟨p, hp, h⟩)
                  · exact .inl h
                  · exact .inr ⟨p, by omega, h⟩
                · rintro (h | ⟨p, hp, h⟩)
                  · exact .inl h
                  · rcases Nat.lt_or_ge p q with h' | h'
                    · exact .inr ⟨p, h', h⟩
                    · obtain rfl : p = q := by omega
                      exact absurd h (hno m)
              have FIN0 := hid' fin0
              clear fin0
              obtain ⟨T, cc, zz, s1, s2, s3, hT, hZ⟩ : ∃ (T : Bool) (cc zz : Int), wz.cell? ⟨b2, q * 3, none⟩ = some (.bool T) ∧ wz.cell? ⟨b2, q * 3 + 1, none⟩ = some (.int .i64 cc) ∧ wz.cell? ⟨b2, q * 3 + 2, none⟩ = some (.int .i64 zz) ∧ Hid (T = false → ∃ z : Nat, y = some z ∧ zz = z) ∧ Hid (T = true → y = none) := by
                have h := hsy wz (bt hB2.out)
                cases y with
                | none => obtain ⟨c', d', s1, s2, s3⟩ := h; exact ⟨true, c', d', s1, s2, s3, hid' (fun h => by cases h), hid' (fun _ => rfl)⟩
                | some z => obtain ⟨c', s1, s2, s3⟩ := h; exact ⟨false, c', z, s1, s2, s3, hid' (fun _ => ⟨z, rfl, rfl⟩), hid' (fun h => by cases h)⟩
              obtain ⟨W2, hW2⟩ : ∃ W2, (wz.alloc (.cells #[.bool T, .int .i64 cc, .int .i64 zz] 66)) = W2 := ⟨_, rfl⟩
              have k0' : (wz.alloc (.cells #[.bool T, .int .i64 cc, .int .i64 zz] 66)).cell? ⟨wq.heap.size, 1, none⟩ = some (.slice (some ⟨b2, 0, none⟩) r.2.length sc) := (World.cell?_of_block (Below.heap_alloc _ _ _ (lt_of_cellC k0))).trans k0
              have hb11 : Box3 W2 wz.heap.size 66 (.bool T) (.int .i64 cc) (.int .i64 zz) := by rw [← hW2]; exact Box3.new _ _ _ _ _
              have bz2 : Below wz.heap.size wz W2 := by rw [← hW2]; exact (Below.refl _ wz).alloc (Nat.le_refl _) _
              have HW2 := hid' hW2
              clear hW2
              go_wp2
              rw [HW2.out]
              clear HW2 k0'
              have bz0 : Below W0.heap.size W0 W2 := hB2.out.trans (bz2.mono hB2.out.size)
              go_loopw [12, 45] (fun rest pp W => ∃ p : Nat, p ≤ r.2.length ∧ pp = .int .i64 p ∧ rest = .bool (!T && restB (symN (nul R 5)) r.2 q p) ∧ Hid (Below W2.heap.size W2 W)) (fun _ pp _ => r.2.length - (valI pp).toNat)
              case atStart => exact ⟨0, Nat.zero_le _, rfl, by simp [restB], hid' (Below.refl _ _)⟩
              case round =>
                rename World => wx
                obtain ⟨p, hp, rfl, rfl, hB3⟩ := hrel
                have b03 : Below W0.heap.size W0 wx := bz0.trans (hB3.out.mono bz0.size)
                by_cases hpn : p < r.2.length
                · obtain ⟨y2, hy2⟩ : ∃ y, r.2[p]? = some y := ⟨_, List.getElem?_eq_getElem hpn⟩
                  have p1 : (p : Int) < (r.2.length : Int) := by omega
                  obtain ⟨b3, eb, hsy2⟩ := hsym p y2 hy2
                  have eb : b3 = b2 := by injection eb with eb; injection eb with eb; exact eb.symm
                  subst eb
                  have hsy2 := hsy2 wx (bt b03)
                  have hstep : (!T && restB (symN (nul R 5)) r.2 q (p + 1)) = ((!T && restB (symN (nul R 5)) r.2 q p) && (Nat.beq p q || symN (nul R 5) y2)) := by
                    show (!T && (restB (symN (nul R 5)) r.2 q p && (Nat.beq p q || symN (nul R 5) (r.2.getD p none)))) = _
                    rw [List.getD_eq_getElem?_getD, hy2, Bool.and_assoc]; rfl
                  generalize (!T && restB (symN (nul R 5)) r.2 q p) = B at hstep
                  have FIN : Hid (∀ W', Below W2.heap.size W2 W' → ∀ al, al = (B && (Nat.beq p q || symN (nul R 5) y2)) → (∃ p' : Nat, p' ≤ r.2.length ∧ Value.int .i64 ((p : Int) + 1) = .int .i64 p' ∧ Value.bool al = .bool (!T && restB (symN (nul R 5)) r.2 q p') ∧ Hid (Below W2.heap.size W2 W')) ∧ r.2.length - (valI (.int .i64 ((p : Int) + 1))).toNat < r.2.length - (valI (.int .i64 (p : Int))).toNat) := hid' fun W' hW' al hal =>
                    ⟨⟨p + 1, by omega, by go_num, by rw [hstep, hal], hid' hW'⟩, by simp [valI]; omega⟩
                  clear hstep
                  by_cases hpq : p = q
                  · have hbeq : Nat.beq p q = true := by rw [hpq]; exact Nat.beq_refl q
                    rw [hbeq, Bool.true_or, Bool.and_true] at FIN
                    subst hpq
                    cases y2 with
                    | none =>
                      obtain ⟨c'', d'', s1', s2', s3'⟩ := hsy2
                      cases B with
                      | false => go_wp2; exact FIN.out _ (hB3.out.alloc hB3.out.size _) false rfl
                      | true => go_wp2; exact FIN.out _ (hB3.out.alloc hB3.out.size _) true rfl
                    | some z2 =>
                      obtain ⟨c'', s1', s2', s3'⟩ := hsy2
                      cases B with
                      | false => go_wp2; exact FIN.out _ (hB3.out.alloc hB3.out.size _) false rfl
                      | true => go_wp2; exact FIN.out _ (hB3.out.alloc hB3.out.size _) true rfl
                  · have hbeq : Nat.beq p q = false := by cases h : Nat.beq p q with
                      | false => rfl
                      | true => exact absurd (Nat.eq_of_beq_eq_true h) hpq
                    rw [hbeq, Bool.false_or] at FIN
                    have hpq' : ((p : Int) == (q : Int)) = false := by
                      cases h : (p : Int) == (q : Int) with
                      | false => rfl
                      | true => exact absurd (by have : (p : Int) = (q : Int) := by simpa using h
                                                 omega) hpq
                    cases y2 with
                    | none =>
                      obtain ⟨c'', d'', s1', s2', s3'⟩ := hsy2
                      cases B with
                      | false => go_wp2; exact FIN.out _ (hB3.out.alloc hB3.out.size _) false rfl
                      | true => go_wp2; exact FIN.out _ (hB3.out.alloc hB3.out.size _) false rfl
                    | some z2 =>
                      obtain ⟨c'', s1', s2', s3'⟩ := hsy2
                      cases B with
                      | false => go_wp2; exact FIN.out _ (hB3.out.alloc hB3.out.size _) false rfl
                      | true =>
                        have ba := hB3.out.alloc hB3.out.size (.cells #[.bool false, .int .i64 c'', .int .i64 (z2 : Int)] 66)
                        have ba0 := bz0.trans (ba.mono bz0.size)
                        have kz := kg ba0
                        go_wp2_with fail
                        refine (hemp z2 _ (bt ba0)).mono ?_
                        rintro e w5 ⟨rfl, b5⟩
                        have hsz : symN (nul R 5) (some z2) = nul R 5 z2 := rfl
                        rw [Bool.true_and, hsz] at FIN
                        generalize nul R 5 z2 = bz at FIN
                        go_wp2
                        exact FIN.out _ (ba.trans (b5.mono ba.size)) bz rfl
                · have bzx : Below wz.heap.size wz wx := bz2.trans (hB3.out.mono bz2.size)
                  have hOx := (Chg.of_below bzx).ownsRow' hO2.out.1 fun g e => by have := (hO2.out.1.lt g e).2; omega
                  have hXx := hX2.out.keep (bzx.block _ hX2.out.lt)
                  have h11 := hb11.keep (hB3.out.block _ hb11.lt)
                  have m2 := h11.c2
                  have hrest : Hid ((!T && restB (symN (nul R 5)) r.2 q p) = true ↔ ∃ z : Nat, y = some z ∧ zz = z ∧ Step1 R r q z) := hid' (by
                    have hsn : ∀ {z : Nat}, symN (nul R 5) (some z) = true ↔ Nul R z := fun {z} => h5 z
                    rw [Bool.and_eq_true, restB_iff]
                    constructor
                    · rintro ⟨h1, h⟩
                      have h1 : T = false := by simpa using h1
                      obtain ⟨z, e1, e2⟩ := hT.out h1
                      refine ⟨z, e1, e2, by rw [hy, e1], fun j hj s hs => ?_⟩
                      have hjl : j < r.2.length := (List.getElem?_eq_some_iff.1 hs).1
                      have := h j (by omega) hj
                      rw [List.getD_eq_getElem?_getD, hs] at this
                      cases s with
                      | none => cases this
                      | some z => exact ⟨z, rfl, hsn.1 this⟩
                    · rintro ⟨z, e1, _, _, h⟩
                      refine ⟨?_, fun j hj hn => ?_⟩
                      · cases T with
                        | false => rfl
                        | true => have := hZ.out rfl; rw [e1] at this; cases this
                      · obtain ⟨s, hs⟩ : ∃ s, r.2[j]? = some s := ⟨_, List.getElem?_eq_getElem (by omega)⟩
                        obtain ⟨z, rfl, hz⟩ := h j hn s hs
                        rw [List.getD_eq_getElem?_getD, hs]
                        exact hsn.2 hz)
                  generalize (!T && restB (symN (nul R 5)) r.2 q p) = B at hrest
                  cases B with
                  | false =>
                    go_wp2
                    go_roundw
                    case measure => simp [valI]; omega
                    case rel => exact ⟨q + 1, ys, by omega, by go_num, hid' ⟨hOx, hO2.out.2⟩, hid' (by have := hL2.out; omega), hY4, FIN0.out (fun m hm => by
                      have h1 := hm.1
                      rw [hy] at h1
                      have h1 : y = some m := by injection h1
                      obtain ⟨z, e1, e2⟩ : ∃ z : Nat, y = some z ∧ zz = z := by
                        cases hTT : T with
                        | false => exact hT.out hTT
                        | true => have := hZ.out hTT; rw [this] at h1; cases h1
                      rw [h1] at e1
                      have e1 : m = z := by injection e1
                      have := hrest.out.2 ⟨m, h1, by rw [e2, e1], hm⟩
                      cases this), hid' b03, hid' hXx⟩
                  | true =>
                    obtain ⟨z, e1', e2, hst⟩ := hrest.out.1 rfl
                    subst e2
                    have hz4 : z < 4 := hlt r hrm z (by rw [← e1']; exact List.mem_of_getElem? hy)
                    have hyl : ys.length ≤ 50 := by have := hL2.out; omega
                    have HST := hid' hst
                    have HE1 := hid' e1'
                    clear hst e1'
                    go_wp2_with (at_builtin; refine wpList_append_own _ rfl _ _ 36 rfl W0.heap.size 3 i0 (.int .i64 0) 1 8 Tryz.underlying36 hi hz0 hz1 hz2 rfl (by decide) _ ys.length (ys.map (Value.int .i64)) rfl (hOx.alloc _) ⟨wx.heap.size, 0, none⟩ 1 1 [.int .i64 (z : Int)] rfl rfl (cell_one_new wx _ _) (by simp [Value.oneCell']) (by simp only [maxLen]; omega) (by omega) (by have := b03.size; simp; omega) ?_; intro v' w5 hown5 hgrow5 _)
                    have hg5 : (wx.alloc (.cells #[.int .i64 (z : Int)] 3)).grownBy w5 u7.ownBlock := hgrow5
                    have hX5 : Box3 w5 wq.heap.size 39 (.int .i64 (r.1 : Int)) (.slice (some ⟨b2, 0, none⟩) r.2.length sc) (.int .i64 t) :=
                      (hXx.keep (W' := wx.alloc _) (Below.heap_alloc _ _ _ hXx.lt)).keep (hg5.block _ (by have := hXx.lt; simp; omega) (fun e => hO2.out.2 e.symm))
                    have b5 : Below W0.heap.size W0 w5 := (b03.alloc b03.size _).grown hg5 (by have := b03.size; simp; omega) fun j e => (hO2.out.1.lt j e).1
                    have hnv : v'.ownBlock ≠ some wq.heap.size := fun e => by
                      rcases hown5.2 with ⟨_, h0⟩ | ⟨g, cap, cur, ev, _, hgc, _⟩
                      · omega
                      · rw [ev] at e
                        have e : g = wq.heap.size := by injection e
                        rw [e] at hgc
                        have := hgc.symm.trans hX5
                        injection this with this
                        injection this with _ this
                        cases this
                    refine ⟨⟨q + 1, ys ++ [(z : Int)], by omega, by go_num, hid' ⟨by simpa using hown5, hnv⟩, hid' (by have := hL2.out; simp; omega), hid' (fun x hx => ?_), hid' (fun m => ?_), hid' b5, hid' hX5⟩, by simp [valI]; omega⟩
                    · rcases List.mem_append.1 hx with h | h
                      · exact hY4.out x h
                      · have : x = (z : Int) := by simpa using h
                        omega
                    · rw [List.mem_append, hM2.out m]
                      constructor
                      · rintro ((h | ⟨p', hp', h⟩) | h)
                        · exact .inl h
                        · exact .inr ⟨p', by omega, h⟩
                        · have : (m : Int) = (z : Int) := by simpa using h
                          obtain rfl : m = z := by omega
                          exact .inr ⟨q, by omega, HST.out⟩
                      · rintro (h | ⟨p', hp', h⟩)
                        · exact .inl (.inl h)
                        · rcases Nat.lt_or_ge p' q with h' | h'
                          · exact .inl (.inr ⟨p', h', h⟩)
                          · obtain rfl : p' = q := by omega
                            right
                            have h1 := h.1
                            have h2 := HST.out.1
                            rw [h1] at h2
                            have h2 : some m = some z := by injection h2
                            have h2 : m = z := by injection h2
                            rw [h2]; simp
            · go_wp2
              refine ⟨⟨k + 1, ys, by omega, by go_num, hid' hO2.out.1, hid' (by have := hL2.out; omega), hY4, hid' (fun m => ?_), hB2⟩, by simp [valI]; omega⟩
              rw [HMORE.out m, hM2.out m, hM.out m]
              constructor
              · rintro (h | ⟨p, _, h⟩)
                · exact .inl h
                · exact .inr ⟨HRN.out, p, h⟩
              · rintro (h | ⟨_, p, h⟩)
                · exact .inl h
                · exact .inr ⟨p, by have := (List.getElem?_eq_some_iff.1 h.1).1; omega, h⟩
        · have e1 : ((r.1 : Int) != (n : Int)) = true := by
            cases h : ((r.1 : Int) != (n : Int)) with
            | true => rfl
            | false => have : (r.1 : Int) = (n : Int) := by simpa using h
                       exact absurd (by omega) hrn
          have HRN := hid' hrn
          clear hrn
          go_wp2
          go_roundw
          case measure => simp [valI]; omega
          case rel => exact ⟨k + 1, xs, by omega, by go_num, hid' (hO.out.alloc _), hid' (by have := hL.out; omega), hR4, hid' (fun m => by rw [HMORE.out m, hM.out m]; exact ⟨.inl, fun h => h.resolve_right fun h => HRN.out h.1⟩), hid' (hB.out.alloc hB.out.size _)⟩
      · have hdir : ∀ m : Nat, (m : Int) ∈ xs ↔ Step R n m := fun m => by
          rw [hM.out m, List.take_of_length_le (by omega), step_iff]
        have hxl : xs.length ≤ 40 := by have := hL.out; omega
        have b0 := hB.out.size
        go_wp2_with fail
        refine (sort_own hO.out (by omega)).mono ?_
        rintro e w2 ⟨rfl, hO2, hg2⟩
        obtain ⟨xs2, hxs2⟩ : ∃ l, (xs.mergeSort fun x y => decide (x ≤ y)) = l := ⟨_, rfl⟩
        have hl2 : xs2.length = xs.length := by rw [← hxs2]; exact List.length_mergeSort _
        have hm2 : ∀ x, x ∈ xs2 ↔ x ∈ xs := fun x => by rw [← hxs2]; exact sorted_mem
        have hr2 : xs2.Pairwise (· ≤ ·) := by rw [← hxs2]; exact sorted_rising xs
        rw [hxs2, ← hl2] at hO2
        have b2 : Below W0.heap.size W0 w2 := hB.out.grown hg2 b0 fun j e => (hO.out.lt j e).1
        clear hxs2
        have HL2 := hid' hl2
        clear hl2
        go_wp2_with fail
        refine (compact_own hO2 (by rw [HL2.out]; omega)).mono ?_
        rintro e w3 ⟨v3, rfl, hO3, hg3⟩
        have hm3 : ∀ x, x ∈ Lib.compact xs2 ↔ x ∈ xs := fun x => compact_mem.trans (hm2 x)
        have hr3 := compact_rising hr2
        generalize Lib.compact xs2 = xs3 at hO3 hm3 hr3
        have h3b : ∀ x ∈ xs3, 0 ≤ x ∧ x < 4 := fun x hx => hR4.out x ((hm3 x).1 hx)
        have hl3 : xs3.length ≤ 4 := rising_small hr3 (n := 4) h3b
        have hd3 : ∀ m : Nat, (m : Int) ∈ xs3 ↔ Step R n m := fun m => (hm3 _).trans (hdir m)
        have b3 : Below W0.heap.size W0 w3 := b2.grown hg3 b2.size fun j e => (hO2.lt j e).1
        have b3s := b3.size
        clear hm3 hr3 hm2 hr2 hO2 hdir
        go_wp2_with fail
        refine (clone_own hO3 (by omega)).mono ?_
        rintro e w4 ⟨vc, rfl, hO4, b4⟩
        have b4' : Below W0.heap.size W0 w4 := b3.trans (b4.mono b3s)
        have hU4 := (Chg.of_below b4).ownsRow' hO3 fun g e => by have := (hO3.lt g e).2; omega
        have hne4 : ∀ g, vc.ownBlock = some g → v3.ownBlock ≠ some g := fun g e e2 => by
          have := (hO4.lt g e).1
          have := (hO3.lt g e2).2
          omega
        obtain ⟨ca, ccap, hvc⟩ : ∃ a c, vc = .slice a xs3.length c := by
          rcases own_cell1 hO4 with ⟨e, h0, _⟩ | ⟨g, cap, e, _⟩
          · exact ⟨none, 0, by rw [e, h0]⟩
          · exact ⟨_, _, e⟩
        subst hvc
        go_wp2
        go_loopw [7, 83] (fun u i W => ∃ (j : Nat) (ys : List Int), j ≤ xs3.length ∧ i = .int .i64 j ∧ Hid (W.ownsRow W0.heap.size 3 1 u ys.length (ys.map (Value.int .i64)) ∧ ∀ g, (Value.slice ca xs3.length ccap).ownBlock = some g → u.ownBlock ≠ some g) ∧ Hid (ys.length ≤ 4 + 4 * j) ∧ Hid (∀ x ∈ ys, 0 ≤ x ∧ x < 4) ∧ Hid (∀ m : Nat, (m : Int) ∈ ys ↔ (m : Int) ∈ xs3 ∨ ∃ p z : Nat, p < j ∧ xs3[p]? = some (z : Int) ∧ Ahd R d z m) ∧ Hid (Below W0.heap.size W0 W) ∧ Hid (W.ownsRow w3.heap.size 3 1 (.slice ca xs3.length ccap) xs3.length (xs3.map (Value.int .i64)))) (fun _ i _ => xs3.length - (valI i).toNat)
        case atStart => exact ⟨0, xs3, Nat.zero_le _, rfl, hid' ⟨hU4, hne4⟩, hid' (by omega), hid' h3b, hid' (fun m => ⟨.inl, fun h => h.resolve_right fun ⟨p, z, hp, _⟩ => by omega⟩), hid' b4', hid' hO4⟩
        case round =>
          rename World => wz
          obtain ⟨j, ys, hj, rfl, hOz, hLz, hYz, hMz, hBz, hCz⟩ := hrel
          by_cases hjn : j < xs3.length
          · obtain ⟨z, hz⟩ : ∃ z : Nat, xs3[j]? = some (z : Int) := by
              have h1 := h3b xs3[j] (List.getElem_mem hjn)
              exact ⟨xs3[j].toNat, by rw [List.getElem?_eq_getElem hjn]; congr 1; omega⟩
            have j1 : (j : Int) < (xs3.length : Int) := by omega
            obtain ⟨gc, ec, hgc, kc⟩ : ∃ gc, ca = some ⟨gc, 0, none⟩ ∧ gc < wz.heap.size ∧ wz.cell? ⟨gc, j, none⟩ = some (.int .i64 (z : Int)) := by
              rcases own_cell1 hCz.out with ⟨_, h0, _⟩ | ⟨g, cap, e, _, hl, hc⟩
              · omega
              · exact ⟨g, by injection e, hl, hc j _ (by rw [List.getElem?_map, hz]; rfl)⟩
            subst ec
            have kz := kg hBz.out
            go_wp2_with fail
            refine (hih z wz (bt hBz.out)).mono ?_
            rintro e w5 ⟨v5, rfl, ⟨zs, hO5, hl5, h5b, h5m⟩, b5⟩
            have bzs := hBz.out.size
            have b5' : Below W0.heap.size W0 w5 := hBz.out.trans (b5.mono bzs)
            have hU5 := (Chg.of_below b5).ownsRow' hOz.out.1 fun g e => by have := (hOz.out.1.lt g e).2; omega
            have hC5 := (Chg.of_below b5).ownsRow' hCz.out fun g e => by have := (hCz.out.lt g e).2; omega
            have hyl : ys.length ≤ 20 := by have := hLz.out; omega
            have hu5 : ∀ g, u7.ownBlock = some g → g < w5.heap.size := fun g e => (hU5.lt g e).2
            go_wp2_with (at_builtin; refine wpList_append_rows rfl _ _ 36 rfl W0.heap.size 3 i0 (.int .i64 0) 8 Tryz.underlying36 hi hz0 hz1 hz2 rfl _ ys.length (ys.map (Value.int .i64)) rfl hU5 wz.heap.size v5 zs.length (zs.map (Value.int .i64)) rfl hO5 (fun u hu => by obtain ⟨x, _, rfl⟩ := List.mem_map.1 hu; rfl) (by simp only [maxLen]; omega) (by omega) b5'.size ?_; intro v' w6 hown6 hgrow6 hat6)
            have hg6 : w5.grownBy w6 u7.ownBlock := hgrow6
            have hat6' : v'.ownBlock = u7.ownBlock ∨ v'.ownBlock = some w5.heap.size := hat6
            have b6 : Below W0.heap.size W0 w6 := b5'.grown hg6 b5'.size fun j e => (hU5.lt j e).1
            have hC6 : w6.ownsRow w3.heap.size 3 1 (.slice (some ⟨gc, 0, none⟩) xs3.length ccap) xs3.length (xs3.map (Value.int .i64)) :=
              (Chg.grown (X := fun k => u7.ownBlock = some k) hg6 fun r e => e).ownsRow' hC5 fun g e e2 => hOz.out.2 g e e2
            refine ⟨⟨j + 1, ys ++ zs, by omega, by go_num, hid' ⟨by rw [List.map_append, List.length_append]; exact hown6, fun g e e2 => ?_⟩, hid' (by have := hLz.out; simp; omega), hid' (fun x hx => (List.mem_append.1 hx).elim (hYz.out x) (h5b x)), hid' (fun m => ?_), hid' b6, hid' hC6⟩, by simp [valI]; omega⟩
            · rcases hat6' with h | h
              · exact hOz.out.2 g e (h ▸ e2)
              · have h7 := (hC5.lt g e).2
                rw [h] at e2
                have : w5.heap.size = g := by injection e2
                omega
            · rw [List.mem_append, hMz.out m, h5m m]
              constructor
              · rintro ((h | ⟨p, z', hp, h1, h2⟩) | h)
                · exact .inl h
                · exact .inr ⟨p, z', by omega, h1, h2⟩
                · exact .inr ⟨j, z, by omega, hz, h⟩
              · rintro (h | ⟨p, z', hp, h1, h2⟩)
                · exact .inl (.inl h)
                · rcases Nat.lt_or_ge p j with h' | h'
                  · exact .inl (.inr ⟨p, z', h', h1, h2⟩)
                  · obtain rfl : p = j := by omega
                    rw [hz] at h1
                    have : (z : Int) = (z' : Int) := by injection h1
                    obtain rfl : z = z' := by omega
                    exact .inr h2
          · have hyl : ys.length ≤ 20 := by have := hLz.out; omega
            have hfin : Hid (∀ m : Nat, (m : Int) ∈ ys ↔ Ahd R (d + 1) n m) := hid' fun m => by
              rw [hMz.out m, hd3 m]
              constructor
              · rintro (h | ⟨p, z, _, h1, h2⟩)
                · exact .inl h
                · exact .inr ⟨z, (hd3 z).1 (List.mem_of_getElem? h1), h2⟩
              · rintro (h | ⟨z, h1, h2⟩)
                · exact .inl h
                · obtain ⟨p, hp⟩ := List.getElem?_of_mem ((hd3 z).2 h1)
                  exact .inr ⟨p, z, by have := (List.getElem?_eq_some_iff.1 hp).1; omega, hp, h2⟩
            go_wp2_with fail
            refine (sort_own hOz.out.1 (by omega)).mono ?_
            rintro e w5 ⟨rfl, hO5, hg5⟩
            obtain ⟨ys2, hys2⟩ : ∃ l, (ys.mergeSort fun x y => decide (x ≤ y)) = l := ⟨_, rfl⟩
            have hl5 : ys2.length = ys.length := by rw [← hys2]; exact List.length_mergeSort _
            have hm5 : ∀ x, x ∈ ys2 ↔ x ∈ ys := fun x => by rw [← hys2]; exact sorted_mem
            have hr5 : ys2.Pairwise (· ≤ ·) := by rw [← hys2]; exact sorted_rising ys
            rw [hys2, ← hl5] at hO5
            have b5 : Below W0.heap.size W0 w5 := hBz.out.grown hg5 hBz.out.size fun j e => (hOz.out.1.lt j e).1
            clear hys2
            have HL5 := hid' hl5
            clear hl5
            go_wp2_with fail
            refine (compact_own hO5 (by rw [HL5.out]; omega)).mono ?_
            rintro e w6 ⟨v6, rfl, hO6, hg6⟩
            have hm6 : ∀ x, x ∈ Lib.compact ys2 ↔ x ∈ ys := fun x => compact_mem.trans (hm5 x)
            have hr6 := compact_rising hr5
            generalize Lib.compact ys2 = ys3 at hO6 hm6 hr6
            have h6b : ∀ x ∈ ys3, 0 ≤ x ∧ x < 4 := fun x hx => hYz.out x ((hm6 x).1 hx)
            have hl6 : ys3.length ≤ 4 := rising_small hr6 (n := 4) h6b
            have b6 : Below W0.heap.size W0 w6 := b5.grown hg6 b5.size fun j e => (hO5.lt j e).1
            go_wp2
            refine bodyPost_ret (results_tmp rfl _ _ _) rfl ⟨_, rfl, ⟨ys3, ownsRow_base_a hO6 (by omega), hl6, h6b, fun m => (hm6 _).trans (hfin.out m)⟩, bt b6⟩
end Go.Proofs.YtddeekefomhbmaaGreatDoor
