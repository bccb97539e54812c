/- Grammars of numbers in memory; what may be nothing. No condition. -/
import Derived.Test.YtddeekefomhbmaaGreatDoorAa
import Derived.Test.YtddeekefomhbmaaGreatDoorNb
import Derived.RangeFuncBox
import Derived.Shelf.Abstract
import Derived.WalkKit
import Derived.WalkSpells
import Derived.OwnWalkIn
import Derived.TacticsInMore
import Derived.LoopNIn
import Derived.LoopIn
import Derived.Maps.AppendAt
import Derived.Maps.OwnIn
namespace Go.Proofs.YtddeekefomhbmaaGreatDoor
open Go Go.RowKit Go.Shelf
attribute [local go_sem] Oper.semAt_some

theorem lt_of_cellC {w : World} {a : Addr} {v : Value} (h : w.cell? a = some v) : a.block < w.heap.size := by
  unfold World.cell? at h
  split at h
  · rename_i e
    exact (Array.getElem?_eq_some_iff.1 e).1
  all_goals first | cases h | (rename_i e; exact (Array.getElem?_eq_some_iff.1 e).1)
/-- Three cells from there on. -/
def Cell3 (w : World) (b o : Nat) (x y z : Value) : Prop := w.cell? ⟨b, o, none⟩ = some x ∧ w.cell? ⟨b, o + 1, none⟩ = some y ∧ w.cell? ⟨b, o + 2, none⟩ = some z
/-- A symbol. -/
def SymAt (w : World) (b o : Nat) : Option Nat → Prop
  | none => ∃ c d : Int, Cell3 w b o (.bool true) (.int .i64 c) (.int .i64 d)
  | some k => ∃ c : Int, Cell3 w b o (.bool false) (.int .i64 c) (.int .i64 (k : Int))
def RowS (w : World) (v : Value) (l : List (Option Nat)) : Prop := (v = .slice none 0 0 ∧ l = []) ∨ ∃ b c, v = .slice (some ⟨b, 0, none⟩) l.length c ∧ ∀ (j : Nat) x, l[j]? = some x → SymAt w b (j * 3) x
theorem rowS_form {w : World} {v : Value} {l : List (Option Nat)} (h : RowS w v l) : ∃ a c, v = .slice a l.length c := by
  rcases h with ⟨rfl, rfl⟩ | ⟨b, c, rfl, _⟩
  · exact ⟨_, _, rfl⟩
  · exact ⟨_, _, rfl⟩
/-- A grammar's rules. -/
def IsG (w : World) (v : Value) (R : List GRule) : Prop := (v = .slice none 0 0 ∧ R = []) ∨ ∃ b c, v = .slice (some ⟨b, 0, none⟩) R.length c ∧
  ∀ (j : Nat) (r : GRule), R[j]? = some r → ∃ (s : Value) (t : Int), Cell3 w b (j * 3) (.int .i64 (r.1 : Int)) s (.int .i64 t) ∧ RowS w s r.2

/-- A row of n truth values at block g. -/
def OutAt (W : World) (g : Nat) (out : List Bool) : Prop := W.ownsRow g 4 1 (.slice (some ⟨g, 0, none⟩) out.length out.length) out.length (out.map Value.bool)
def sat (out : List Bool) : Option Nat → Bool
  | none => false
  | some k => (out[k]?).getD false
/-- What a rule asks, is so. -/
def clos (out : List Bool) (r : GRule) : Prop := r.2.all (sat out) = true → out[r.1]? = some true
theorem sat_mono {o o' : List Bool} (h : ∀ k : Nat, o[k]? = some true → o'[k]? = some true) {s : Option Nat} (hs : sat o s = true) : sat o' s = true := by
  cases s with
  | none => cases hs
  | some k =>
    have hs : (o[k]?).getD false = true := hs
    show (o'[k]?).getD false = true
    cases hk : o[k]? with
    | none => rw [hk] at hs; cases hs
    | some b =>
      rw [hk] at hs
      have hs : b = true := hs
      subst hs
      rw [h k hk]; rfl
theorem Chg.grown {X : Nat → Prop} {A B : World} {row : Option Nat} (h : A.grownBy B row) (hx : ∀ r, row = some r → X r) : Chg X A B := ⟨h.os, h.tape, h.output, h.size, fun k hk hn => h.block k hk fun e => hn (hx k e.symm)⟩
theorem Chg.ownsRow' {X : Nat → Prop} {A B : World} {base n : Nat} {e : TypeId} {v : Value} {xs : List Value} (hc : Chg X A B) (h : A.ownsRow base e 1 v n xs) (hx : ∀ g, v.ownBlock = some g → ¬ X g) : B.ownsRow base e 1 v n xs := by
  obtain ⟨h1, h2⟩ := h
  refine ⟨h1, ?_⟩
  rcases h2 with h2 | ⟨g, cap, cur, rfl, q1, q2, q3⟩
  · exact .inl h2
  · exact .inr ⟨g, cap, cur, rfl, q1, (hc.block g (Array.getElem?_eq_some_iff.1 q2).1 (hx g rfl)).trans q2, q3⟩
theorem made_false (n : Nat) : (madeCells (Value.bool false).cells (n * 1)).toList = (List.replicate n false).map Value.bool := by
  rw [Nat.mul_one, List.map_replicate]
  apply List.ext_getElem?
  intro i
  unfold madeCells
  rw [Array.toList_map, Array.toList_range, List.getElem?_map, List.getElem?_replicate]
  by_cases hi : i < n
  · rw [List.getElem?_range hi, if_pos hi]
    show some ((Value.bool false).cells[i % 1]!) = _
    rw [Nat.mod_one]; rfl
  · rw [List.getElem?_eq_none (by simpa using hi), if_neg hi]; rfl
noncomputable def fals (W : World) (g n : Nat) : Nat := cntP (fun j => W.cell? ⟨g, j, none⟩ = some (.bool false)) n
theorem outAt_cell {W : World} {g : Nat} {out : List Bool} (h : OutAt W g out) {j : Nat} (hj : j < out.length) : W.cell? ⟨g, j, none⟩ = some (.bool out[j]) := by
  have := h.cellAt j (by omega)
  rw [this, List.getElem?_map, List.getElem?_eq_getElem hj]; rfl
theorem cntP_congr {p q : Nat → Prop} : ∀ {N : Nat}, (∀ n, n < N → (p n ↔ q n)) → cntP p N = cntP q N
  | 0, _ => rfl
  | n + 1, h => by
    have e := cntP_congr (N := n) fun m hm => h m (by omega)
    have e2 := propext (h n (by omega))
    unfold cntP
    rw [e, e2]
theorem fals_out {W : World} {g : Nat} {out : List Bool} (h : OutAt W g out) {n : Nat} (hn : out.length = n) : fals W g n = cntP (fun j => out[j]? = some false) n := by
  refine cntP_congr fun j hj => ?_
  rw [outAt_cell h (by omega), List.getElem?_eq_getElem (by omega)]
  cases out[j]'(by omega) <;> simp
theorem info4 : (Tryz.prog.info? 4).map (fun i => (i.zero, i.size, i.bytes)) = some (some (.bool false), 1, 1) := by kernel_rfl
theorem isG_rows {v : Value} {R : List GRule} {w : World} (hG : ∀ W, Below w.heap.size w W → IsG W v R) : ∃ a c, v = .slice a R.length c ∧ ∀ (j : Nat) (r : GRule), R[j]? = some r → ∃ b, a = some ⟨b, 0, none⟩ ∧ b < w.heap.size ∧ ∀ W, Below w.heap.size w W → ∃ (s : Value) (t : Int), Cell3 W b (j * 3) (.int .i64 (r.1 : Int)) s (.int .i64 t) ∧ RowS W s r.2 := by
  rcases hG w (Below.refl _ _) with ⟨rfl, rfl⟩ | ⟨b, c, rfl, h0⟩
  · exact ⟨_, _, rfl, fun j r h => by simp at h⟩
  · refine ⟨_, _, rfl, fun j r hr => ⟨b, rfl, ?_, fun W hW => ?_⟩⟩
    · obtain ⟨_, _, ⟨h1, _, _⟩, _⟩ := h0 j r hr
      exact lt_of_cellC h1
    · rcases hG W hW with ⟨h1, _⟩ | ⟨b', c', h1, h2⟩
      · cases h1
      · cases h1
        exact h2 j r hr
theorem hid' {p : Prop} (h : p) : Hid p := h
def mostG : List GRule → Nat
  | [] => 0
  | r :: l => max r.1 (mostG l)
theorem mostG_le {r : GRule} : ∀ {l : List GRule}, r ∈ l → r.1 ≤ mostG l
  | a :: l, h => by
    rcases List.mem_cons.1 h with rfl | h
    · exact Nat.le_max_left _ _
    · exact Nat.le_trans (mostG_le h) (Nat.le_max_right _ _)
theorem mostG_snoc (l : List GRule) (r : GRule) : mostG (l ++ [r]) = max (mostG l) r.1 := by
  induction l with
  | nil => simp [mostG]
  | cons a l ih => simp only [List.cons_append, mostG, ih]; omega

set_option maxRecDepth 100000 in
set_option maxHeartbeats 2000000 in
theorem empty_calls (v : Value) (R : List GRule) (w : World) (hG : ∀ W, Below w.heap.size w W → IsG W v R) (hlen : R.length ≤ 100) (hmost : mostG R ≤ 100) (hrl : ∀ r ∈ R, r.2.length ≤ 100) :
    Calls Tryz.prog 10 #[.agg #[v]] w fun e w' => ∃ g out, e = .returned (.slice (some ⟨g, 0, none⟩) out.length out.length) ∧ w.heap.size ≤ g ∧ OutAt w' g out ∧ out.length = mostG R + 1 ∧ (∀ k : Nat, out[k]? = some true ↔ Nul R k) ∧ Below w.heap.size w w' := by
  obtain ⟨a, c, rfl, hrow⟩ := isG_rows hG
  have t330 := Tryz.underlying27; have a330 := Tryz.isAgg27; have z330 := Tryz.sizeOf27; have u330 := run_underlying Tryz.underlying27
  have t402 := Tryz.underlying39; have a402 := Tryz.isAgg39; have z402 := Tryz.sizeOf39; have u402 := run_underlying Tryz.underlying39
  have t404 := Tryz.underlying66; have a404 := Tryz.isAgg66; have z404 := Tryz.sizeOf66; have u404 := run_underlying Tryz.underlying66
  refine (callsIn_wide (n := 10)).1 ?_
  refine callsIn_of_wp Tryz.func10 rfl trivial ?_ rfl
  simp only [Tryz.ntmps10, List.size_toArray, List.length_cons, List.length_nil, Nat.reduceAdd, Nat.reduceSub, Array.replicate_succ, Array.replicate_zero, List.push_toArray, List.append_toArray, List.nil_append, List.cons_append]
  gi_wp2
  have hbox : ∀ W, Below (w.heap.size + 1) (w.alloc (.cells #[.slice a R.length c] 27)) W → W.cell? ⟨w.heap.size, 0, none⟩ = some (.slice a R.length c) := fun W hW => by
    rw [hW.cell (p := ⟨w.heap.size, 0, none⟩) (by show w.heap.size < _; omega)]
    exact (Boxed.new w 27 _).cell
  gi_loopw [3, 16] (fun m i wr => ∃ k : Nat, k ≤ R.length ∧ i = .int .i64 k ∧ m = .int .i64 ((mostG (R.take k) : Nat) : Int) ∧ Hid (Below (w.heap.size + 1) (w.alloc (.cells #[.slice a R.length c] 27)) wr)) (fun _ i _ => R.length - (intOf i).toNat)
  case atStart => exact ⟨0, Nat.zero_le _, rfl, rfl, Below.refl _ _⟩
  case round =>
    obtain ⟨k, hk, rfl, rfl, hB⟩ := hrel
    by_cases hkn : k < R.length
    · obtain ⟨r, hr⟩ : ∃ r, R[k]? = some r := ⟨_, List.getElem?_eq_getElem hkn⟩
      obtain ⟨b, rfl, hb, hcells⟩ := hrow k r hr
      have hBw : Below w.heap.size w wr := ((Below.refl w.heap.size w).alloc (Nat.le_refl _) _).trans (Below.mono hB.out (by omega))
      obtain ⟨s, t, ⟨c1, c2, c3⟩, hS⟩ := hcells wr hBw
      obtain ⟨sx, sc, rfl⟩ := rowS_form hS
      clear hBw hS
      have htake : mostG (R.take (k + 1)) = max (mostG (R.take k)) r.1 := by rw [List.take_add_one, hr]; exact mostG_snoc _ _
      gi_wp2
      exact ⟨⟨k + 1, by omega, by go_num, by rw [htake]; congr 1; omega, hid' (hB.out.alloc (by have := hB.out.size; simp at this ⊢; omega) _)⟩, by simp [intOf]; omega⟩
    · have hke : k = R.length := by omega
      subst hke
      rw [List.take_length]
      have hwm : wrap64 ((mostG R : Int) + 1) = ((mostG R + 1 : Nat) : Int) := by rw [IntWalk.wrap64_in _ ⟨by omega, by omega⟩]; omega
      have hBn : w.heap.size + 1 ≤ wr.heap.size := by have := hB.out.size; simp at this; omega
      obtain ⟨i0, hi, hz0, hz1, hz2⟩ := info_parts info4
      obtain ⟨w2, hmk, hown, hgr⟩ := run_makeSlice_full (P := Tryz.prog) (w := wr) wr.heap.size 33 4 i0 (.bool false) 1 Tryz.underlying33 hi hz0 hz1 .i64 .i64 (mostG R + 1) (by omega) (by rw [hz2]; omega) (by simp only [maxLen]; omega) (Nat.le_refl _)
      rw [show ((mostG R + 1 : Nat) : Int) = (mostG R : Int) + 1 by omega] at hmk
      obtain ⟨G, hGe⟩ : ∃ G, G = wr.heap.size := ⟨_, rfl⟩
      rw [← hGe] at hmk hown
      have hGn : w.heap.size + 1 ≤ G := by omega
      have hB2 : Below (w.heap.size + 1) (w.alloc (.cells #[.slice a R.length c] 27)) w2 := hB.out.trans ((Chg.grown (X := fun _ => False) hgr (fun r e => by cases e)).below (fun _ _ h => h) hBn)
      clear hGe hgr
      have hout : OutAt w2 G (List.replicate (mostG R + 1) false) := by
        unfold OutAt
        rw [List.length_replicate]
        rw [← made_false]; exact hown
      gi_wp2
      gi_loopw [7] (fun mo wq => ∃ (out : List Bool) (m : Bool), mo = .bool m ∧ out.length = mostG R + 1 ∧ Hid (Chg (fun k => k = G) w2 wq) ∧ Hid (OutAt wq G out) ∧ Hid (∀ k : Nat, out[k]? = some true → Nul R k) ∧ Hid (m = false → ∀ r ∈ R, clos out r))
        (fun mo wq => fals wq G (mostG R + 1) + (match mo with | .bool true => 1 | _ => 0))
      case atStart =>
        refine ⟨List.replicate (mostG R + 1) false, true, rfl, by simp, hid' (Chg.refl _ _), hid' hout, hid' (fun k hk => ?_), hid' (fun h => by cases h)⟩
        rw [List.getElem?_replicate] at hk
        split at hk <;> simp at hk
      case round =>
        rename World => wq
        obtain ⟨out, m, rfl, hol, hC, hO, hS, hM⟩ := hrel
        cases m with
        | false =>
          gi_wp2
          refine bodyPost_ret (results_tmp rfl _ _ _) rfl ?_
          refine ⟨G, out, by show Ending.returned (Value.slice (some ⟨G, 0, none⟩) (mostG R + 1) (mostG R + 1)) = _; rw [hol], by omega, hO.out, hol, fun k => ⟨hS.out k, fun hn => ?_⟩, ?_⟩
          · exact Nul.least (S := fun k => out[k]? = some true) (fun r hr hs => hM.out trivial r hr (List.all_eq_true.2 fun x hx => by
              obtain ⟨k, rfl, hk⟩ := hs x hx
              show (out[k]?).getD false = true
              rw [hk]; rfl)) hn
          · exact (((Below.refl w.heap.size w).alloc (Nat.le_refl _) _).trans (Below.mono hB2 (by omega))).trans (hC.out.below (fun k hk h => by omega) (by have := hB2.size; simp at this; omega))
        | true =>
          have hBq : ∀ wz, Chg (fun k => k = G) w2 wz → Below (w.heap.size + 1) (w.alloc (.cells #[.slice a R.length c] 27)) wz := fun wz hz => hB2.trans (hz.below (fun k hk h => by omega) (by have := hB2.size; simp at this; omega))
          have hb0 := hbox wq (hBq wq hC.out)
          gi_wp2
          gi_loopw [7, 32] (fun mo i wz => ∃ (k : Nat) (o' : List Bool) (b : Bool), k ≤ R.length ∧ i = .int .i64 k ∧ mo = .bool b ∧ o'.length = mostG R + 1 ∧ Hid (Chg (fun k => k = G) w2 wz) ∧ Hid (OutAt wz G o') ∧ Hid (∀ k : Nat, o'[k]? = some true → Nul R k) ∧ Hid (b = false → o' = out ∧ ∀ r ∈ R.take k, clos out r) ∧ Hid (b = true → fals wz G (mostG R + 1) < fals wq G (mostG R + 1)))
            (fun _ i _ => R.length - (intOf i).toNat)
          case atStart => exact ⟨0, out, false, Nat.zero_le _, rfl, rfl, hol, hC, hO, hS, hid' (fun _ => ⟨rfl, fun r hr => by simp at hr⟩), hid' (fun h => by cases h)⟩
          case round =>
            rename World => wz
            obtain ⟨k, o', b, hk, rfl, rfl, hol2, hC2, hO2, hS2, hF, hT⟩ := hrel
            by_cases hkn : k < R.length
            · obtain ⟨r, hr⟩ : ∃ r, R[k]? = some r := ⟨_, List.getElem?_eq_getElem hkn⟩
              have hrm := List.mem_of_getElem? hr
              have hle := mostG_le hrm
              have hl2 := hrl r hrm
              obtain ⟨b1, rfl, hb1, hcells⟩ := hrow k r hr
              have hBz := hBq wz hC2.out
              have hb2 := hbox wz hBz
              obtain ⟨s, t, ⟨c1, c2, c3⟩, hSy⟩ := hcells wz (((Below.refl w.heap.size w).alloc (Nat.le_refl _) _).trans (Below.mono hBz (by omega)))
              obtain ⟨sx, sc, rfl⟩ := rowS_form hSy
              obtain ⟨x, hx⟩ : ∃ x, o'[r.1]? = some x := ⟨_, List.getElem?_eq_getElem (by omega)⟩
              have hxc : wz.cell? ⟨G, r.1, none⟩ = some (.bool x) := by
                have hlt : r.1 < o'.length := by omega
                rw [outAt_cell hO2.out hlt]
                rw [List.getElem?_eq_getElem hlt] at hx
                cases hx; rfl
              have HS := hid' hSy
              have hxa : (wz.alloc (.cells #[.int .i64 (r.1 : Int), .slice sx r.2.length sc, .int .i64 t] 39)).cell? ⟨G, r.1, none⟩ = some (.bool x) := by
                rw [((Below.refl wz.heap.size wz).alloc (Nat.le_refl _) _).cell (p := ⟨G, r.1, none⟩) (lt_of_cellC hxc)]; exact hxc
              clear hBz hSy
              gi_wp2
              obtain ⟨wA, hwA⟩ : ∃ wA, wz.alloc (.cells #[.int .i64 (r.1 : Int), .slice sx r.2.length sc, .int .i64 t] 39) = wA := ⟨_, rfl⟩
              have hszA : wA.heap.size = wz.heap.size + 1 := by rw [← hwA]; simp
              have hzA : Chg (fun _ => False) wz wA := by rw [← hwA]; exact Chg.alloc _ _ _
              have hbA : wA.cell? ⟨wz.heap.size, 0, none⟩ = some (.int .i64 (r.1 : Int)) := by
                rw [← hwA]
                unfold World.cell?
                rw [World.alloc_heap_new]; rfl
              rw [hwA] at hxa ⊢
              gi_loopw [10, 45] (fun al i wy => ∃ j : Nat, j ≤ r.2.length ∧ i = .int .i64 j ∧ al = .bool (!x && (r.2.take j).all (sat o')) ∧ Hid (Chg (fun _ => False) wA wy)) (fun _ i _ => r.2.length - (intOf i).toNat)
              case atStart => exact ⟨0, Nat.zero_le _, rfl, by simp, hid' (Chg.refl _ _)⟩
              case round =>
                rename World => wy
                obtain ⟨j, hj, rfl, rfl, hCy⟩ := hrel
                by_cases hjn : j < r.2.length
                · obtain ⟨y, hy⟩ : ∃ y, r.2[j]? = some y := ⟨_, List.getElem?_eq_getElem hjn⟩
                  have hzy := hzA.trans hCy.out
                  have htk : (!x && (r.2.take (j + 1)).all (sat o')) = ((!x && (r.2.take j).all (sat o')) && sat o' y) := by
                    rw [List.take_add_one, hy, List.all_append]
                    simp [Bool.and_assoc]
                  have hOy : OutAt wy G o' := hzy.ownsRow' hO2.out (fun _ _ h => h)
                  obtain ⟨b2, c2, hsx, hsym⟩ : ∃ b c, Value.slice sx r.2.length sc = .slice (some ⟨b, 0, none⟩) r.2.length c ∧ ∀ (j : Nat) x, r.2[j]? = some x → SymAt wz b (j * 3) x := by
                    rcases HS.out with ⟨_, h⟩ | h
                    · rw [h] at hy; simp at hy
                    · exact h
                  cases hsx
                  have hsy := hsym j y hy
                  have cy : ∀ {o v}, wz.cell? ⟨b2, o, none⟩ = some v → wy.cell? ⟨b2, o, none⟩ = some v := fun {o v} h => by
                    rw [(hzy.below (n := wz.heap.size) (fun _ _ h => h) (Nat.le_refl _)).cell (p := ⟨b2, o, none⟩) (lt_of_cellC h)]; exact h
                  generalize hBv : (!x && (r.2.take j).all (sat o')) = B at htk
                  have fin : ∀ W', Chg (fun _ => False) wy W' → ∀ al, al = (B && sat o' y) → (∃ j' : Nat, j' ≤ r.2.length ∧ Value.int .i64 ((j : Int) + 1) = .int .i64 j' ∧ Value.bool al = .bool (!x && (r.2.take j').all (sat o')) ∧ Hid (Chg (fun _ => False) wA W')) ∧ r.2.length - (intOf (.int .i64 ((j : Int) + 1))).toNat < r.2.length - (intOf (.int .i64 j)).toNat := fun W' hW' al hal =>
                    ⟨⟨j + 1, by omega, by go_num, by rw [htk, hal], hid' (hCy.out.trans hW')⟩, by simp [intOf]; omega⟩
                  have FIN := hid' fin
                  clear fin
                  cases y with
                  | none =>
                    obtain ⟨c', d', s1, s2, s3⟩ := hsy
                    have s1 := cy s1
                    have s2 := cy s2
                    have s3 := cy s3
                    cases B with
                    | false =>
                      gi_wp2
                      exact FIN.out _ (Chg.alloc _ _ _) false rfl
                    | true =>
                      gi_wp2
                      exact FIN.out _ (Chg.alloc _ _ _) false rfl
                  | some q =>
                    obtain ⟨c', s1, s2, s3⟩ := hsy
                    have s1 := cy s1
                    have s2 := cy s2
                    have s3 := cy s3
                    cases B with
                    | false =>
                      gi_wp2
                      exact FIN.out _ (Chg.alloc _ _ _) false rfl
                    | true =>
                      by_cases hq : q < mostG R + 1
                      · have hqc : (wy.alloc (.cells #[.bool false, .int .i64 c', .int .i64 (q : Int)] 66)).cell? ⟨G, q, none⟩ = some (.bool (o'[q]'(by omega))) := by
                          have h := outAt_cell hOy (j := q) (by omega)
                          rw [((Below.refl wy.heap.size wy).alloc (Nat.le_refl _) _).cell (p := ⟨G, q, none⟩) (lt_of_cellC h)]; exact h
                        gi_wp2
                        exact FIN.out _ (Chg.alloc _ _ _) (o'[q]'(by omega)) (by
                          have e : (true && sat o' (some q)) = (o'[q]?).getD false := rfl
                          rw [e, List.getElem?_eq_getElem (by omega)]; rfl)
                      · gi_wp2
                        exact FIN.out _ (Chg.alloc _ _ _) false (by
                          have e : (true && sat o' (some q)) = (o'[q]?).getD false := rfl
                          rw [e, List.getElem?_eq_none (by omega)]; rfl)
                · have hje : j = r.2.length := by omega
                  subst hje
                  rw [List.take_length]
                  have hzy := hzA.trans hCy.out
                  have hOy : OutAt wy G o' := hzy.ownsRow' hO2.out (fun _ _ h => h)
                  have hCy2 : Chg (fun k => k = G) w2 wy := hC2.out.trans (hzy.more fun _ _ h => h.elim)
                  generalize hBv : (!x && r.2.all (sat o')) = B
                  cases B with
                  | false =>
                    gi_wp2
                    refine ⟨⟨k + 1, o', b, by omega, by go_num, rfl, hol2, hid' hCy2, hid' hOy, hS2, hid' (fun hb => ?_), hid' (fun hb => ?_)⟩, by simp [intOf]; omega⟩
                    · obtain ⟨e, h⟩ := hF.out hb
                      refine ⟨e, fun r' hr' => ?_⟩
                      rw [List.take_add_one, hr] at hr'
                      rcases List.mem_append.1 hr' with h1 | h1
                      · exact h r' h1
                      · have h1 : r' = r := by simpa using h1
                        subst h1
                        intro ha
                        rw [← e] at ha ⊢
                        rw [ha] at hBv
                        rw [hx]
                        cases x <;> first | rfl | cases hBv
                    · rw [fals_out hOy hol2, ← fals_out hO2.out hol2]; exact hT.out hb
                  | true =>
                    have hx0 : x = false := by cases x <;> first | rfl | cases hBv
                    subst hx0
                    have hall : r.2.all (sat o') = true := by simpa using hBv
                    have hlt : r.1 < o'.length := by omega
                    have hfz := hOy.frozenAt r.1
                    have hby : wy.cell? ⟨wz.heap.size, 0, none⟩ = some (.int .i64 (r.1 : Int)) := by
                      rw [(hCy.out.below (n := wA.heap.size) (fun _ _ h => h) (Nat.le_refl _)).cell (p := ⟨wz.heap.size, 0, none⟩) (by show wz.heap.size < _; omega)]; exact hbA
                    have hcy := outAt_cell hOy hlt
                    gi_wp2
                    obtain ⟨st1, st2⟩ := World.ownsRow.stored hOy r.1 (.bool true)
                    have hO3 : OutAt (wy.setCell ⟨G, r.1, none⟩ (.bool true)) G (o'.set r.1 true) := by
                      unfold OutAt
                      rw [List.length_set, List.map_set]; exact st1
                    refine ⟨⟨k + 1, o'.set r.1 true, true, by omega, by go_num, rfl, by rw [List.length_set]; exact hol2, hid' (hCy2.trans (Chg.grown st2 fun r e => by cases e; rfl)), hid' hO3, hid' (fun q hq => ?_), hid' (fun hb => by cases hb), hid' (fun _ => ?_)⟩, by simp [intOf]; omega⟩
                    · by_cases hqr : q = r.1
                      · subst hqr
                        refine Nul.rule hrm fun s hs => ?_
                        have := List.all_eq_true.1 hall s hs
                        cases s with
                        | none => cases this
                        | some q' =>
                          refine ⟨q', rfl, hS2.out q' ?_⟩
                          have this : (o'[q']?).getD false = true := this
                          cases hq' : o'[q']? with
                          | none => rw [hq'] at this; cases this
                          | some bb => rw [hq'] at this; have this : bb = true := this; rw [this]
                      · rw [List.getElem?_set_ne (fun e => hqr e.symm)] at hq
                        exact hS2.out q hq
                    · have hlen3 : (o'.set r.1 true).length = mostG R + 1 := by rw [List.length_set]; exact hol2
                      rw [fals_out hO3 hlen3]
                      have hless : cntP (fun j => (o'.set r.1 true)[j]? = some false) (mostG R + 1) < cntP (fun j => o'[j]? = some false) (mostG R + 1) := by
                        refine cntP_lt (m := r.1) (fun q hq => ?_) hx ?_ _ (by omega)
                        · by_cases hqr : q = r.1
                          · subst hqr
                            rw [List.getElem?_set_self hlt] at hq; cases hq
                          · rwa [List.getElem?_set_ne (fun e => hqr e.symm)] at hq
                        · rw [List.getElem?_set_self hlt]; simp
                      cases b with
                      | false =>
                        obtain ⟨e, _⟩ := hF.out rfl
                        rw [fals_out hO.out hol, ← e]; exact hless
                      | true =>
                        have h1 := hT.out rfl
                        rw [fals_out hO2.out hol2] at h1
                        omega
            · have hke : k = R.length := by omega
              subst hke
              gi_wp2
              refine ⟨⟨o', b, rfl, hol2, hC2, hO2, hS2, hid' (fun hb => ?_)⟩, ?_⟩
              · obtain ⟨e, h⟩ := hF.out hb
                rw [List.take_length] at h
                rw [e]; exact h
              · cases b with
                | false =>
                  obtain ⟨e, _⟩ := hF.out rfl
                  subst e
                  show fals wz G (mostG R + 1) + 0 < fals wq G (mostG R + 1) + 1
                  rw [fals_out hO2.out hol2, fals_out hO.out hol]; omega
                | true =>
                  have := hT.out rfl
                  show fals wz G (mostG R + 1) + 1 < fals wq G (mostG R + 1) + 1
                  omega
end Go.Proofs.YtddeekefomhbmaaGreatDoor
