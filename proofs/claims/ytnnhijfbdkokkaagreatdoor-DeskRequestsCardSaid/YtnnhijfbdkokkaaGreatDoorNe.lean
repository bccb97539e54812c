/- strings.SplitSeq at a line feed: an iterator over a text's lines. No condition. -/
import Derived.Test.YtnnhijfbdkokkaaGreatDoorNb
import Derived.Test.YtnnhijfbdkokkaaGreatDoorSh
import Derived.RangeFuncBox
import Derived.Shelf.Abstract
import Derived.Shelf.RegionOpen
import Derived.WalkKit
import Derived.OwnWalkIn
import Derived.TacticsInMore
import Derived.LoopNIn
import Derived.LoopIn
namespace Go.Proofs.YtnnhijfbdkokkaaGreatDoor
open Go Go.RowKit Go.Shelf
attribute [local go_sem] Oper.semAt_some

def nl : ByteArray := ⟨#[10]⟩
/-- A text's lines. -/
def parts (s : ByteArray) : List ByteArray := Lib.splitB nl 0 (Lib.countB s nl) s
theorem indexB_nl (s : ByteArray) : Lib.indexB s nl = Lib.indexByte s.data.toList 10 := Lib.index_one _ _
theorem parts_miss {s : ByteArray} (h : Lib.indexByte s.data.toList 10 = -1) : parts s = [s] := Lib.splitB_miss _ _ _ _ ((indexB_nl s).trans h)
theorem parts_hit {s : ByteArray} {i : Nat} (h : Lib.indexByte s.data.toList 10 = i) : parts s = s.extract 0 i :: parts (s.extract (i + 1) s.size) := by
  have hi := (indexB_nl s).trans h
  have hc : Lib.countB s nl = Lib.countB (s.extract (i + 1) s.size) nl + 1 := by
    have h2 : Lib.index s.data.toList [10] = i := (Lib.index_one _ _).trans h
    have := Lib.count_hit (sub := [10]) (by simp) h2
    show Lib.count s.data.toList [10] = Lib.count (s.extract (i + 1) s.size).data.toList [10] + 1
    rw [this, Nat.add_comm, Lib.extract_to_end]
    rfl
  unfold parts
  rw [hc, Lib.splitB_hit _ _ _ _ i hi]
  rfl
theorem indexByte_lt {l : List UInt8} {i : Nat} (h : Lib.indexByte l 10 = i) : i < l.length := by
  have := (Lib.indexByte_some h).1
  exact (List.getElem?_eq_some_iff.1 this).1
theorem index_one (s : ByteArray) (w : World) : Calls Tryz.prog 73 #[.string s, .string nl] w fun e w' => e = .returned (.int .i64 (Lib.indexByte s.data.toList 10)) ∧ w' = w :=
  Any.strings_Index_one (ρ := Tryz.lays146_ren) { Tryz.lays146 with } s 10 w

set_option maxRecDepth 100000 in
set_option maxHeartbeats 2000000 in
theorem split_iter (n : Nat) (hn : 1 ≤ n) (bs bsep bsave base : Nat) (s : ByteArray) (hs : s.size ≤ 1000000) :
    IterO Fence.wide n Tryz.prog 169 #[.pointer (some ⟨bsep, 0, none⟩), .pointer (some ⟨bs, 0, none⟩), .pointer (some ⟨bsave, 0, none⟩)] Value.string (fun k => k = bs ∨ k = bsep ∨ k = bsave)
      (fun W => bs ≠ bsep ∧ bs ≠ bsave ∧ Boxed W bs 9 (.string s) ∧ Boxed W bsep 9 (.string nl) ∧ Boxed W bsave 3 (.int .i64 0)) (fun xs => xs = parts s) (fun _ => True) (parts s).length base := by
  intro l J Jx W O ⟨hne1, hne2, c1, c2, c3⟩ hb hC hO hJ hJx hY h0
  refine callsIn_of_wp Tryz.func169 rfl trivial ?_ rfl
  simp only [Tryz.ntmps169, List.size_toArray, List.length_cons, List.length_nil, Nat.reduceAdd, Nat.reduceSub, Array.replicate_succ, Array.replicate_zero, List.push_toArray, List.append_toArray, List.nil_append, List.cons_append]
  have k1 := c1.cell
  have k2 := c2.cell
  have k3 := c3.cell
  have hnl : nl.size = 1 := rfl
  gi_wp2
  gi_loopw [7] (fun _ wr => ∃ (pre : List ByteArray) (r : ByteArray) (O1 : Nat → Prop), parts s = pre ++ parts r ∧ J O1 pre wr ∧ Boxed wr bs 9 (.string r) ∧ Boxed wr bsep 9 (.string nl) ∧ Boxed wr bsave 3 (.int .i64 0) ∧ (¬ O1 bs ∧ ¬ O1 bsep ∧ ¬ O1 bsave) ∧ r.size ≤ s.size)
    (fun _ wr => match wr.cell? ⟨bs, 0, none⟩ with | some (.string r) => r.size | _ => 0)
  case atStart =>
    exact ⟨[], s, O, rfl, h0, c1, c2, c3, ⟨(hC _ (.inl rfl)).2.1, (hC _ (.inr (.inl rfl))).2.1, (hC _ (.inr (.inr rfl))).2.1⟩, Nat.le_refl _⟩
  case round =>
    obtain ⟨pre, r, O1, hp, hJ1, d1, d2, d3, ⟨n1, n2, n3⟩, hsz⟩ := hrel
    have k1 := d1.cell
    have k2 := d2.cell
    have k3 := d3.cell
    have f1 := d1.frozen
    by_cases hm : Lib.indexByte r.data.toList 10 = -1
    · have hpr := parts_miss hm
      obtain ⟨fn, tmps, assign, body, hy, hR⟩ := hY pre r wr O1 hJ1 (by rw [hp, hpr]; simp)
      gi_wp2_with (refine ⟨trivial, ?_⟩; gi_at_call 73; refine (callsIn_wide.2 (index_one _ _)).mono ?_; rintro e w' ⟨rfl, rfl⟩; rw [hm])
      refine hR.mono ?_
      rintro e W3 (⟨rfl, O2, hJ3, hr3⟩ | ⟨rfl, O2, hJ3, hr3⟩)
      · gi_wp2
        go_end0
        exact ⟨⟨_, rfl⟩, .inl ⟨pre ++ [r], O2, by rw [hp, hpr], hJ3⟩⟩
      · gi_wp2
        go_end0
        exact ⟨⟨_, rfl⟩, .inr ⟨pre ++ [r], O2, trivial, hJ3⟩⟩
    · obtain ⟨i, hi⟩ : ∃ i : Nat, Lib.indexByte r.data.toList 10 = i := ⟨(Lib.indexByte r.data.toList 10).toNat, by have := Lib.indexByte_ge r.data.toList 10; omega⟩
      have hpr := parts_hit hi
      have hlt := indexByte_lt hi
      rw [← Lib.size_eq] at hlt
      have hw0 : wrap64 (i : Int) = i := IntWalk.wrap64_in _ ⟨by omega, by omega⟩
      have hw1 : wrap64 ((i : Int) + 1) = (i : Int) + 1 := IntWalk.wrap64_in _ ⟨by omega, by omega⟩
      obtain ⟨fn, tmps, assign, body, hy, hR⟩ := hY pre (r.extract 0 i) wr O1 hJ1 (by rw [hp, hpr]; simp)
      gi_wp2_with (refine ⟨trivial, ?_⟩; gi_at_call 73; refine (callsIn_wide.2 (index_one _ _)).mono ?_; rintro e w' ⟨rfl, rfl⟩; rw [hi])
      refine hR.mono ?_
      rintro e W3 (⟨rfl, O2, hJ3, hr3⟩ | ⟨rfl, O2, hJ3, hr3⟩)
      · have e1 : Boxed W3 bs 9 (.string r) := (hr3.1.block bs d1.lt n1).trans d1
        have e2 : Boxed W3 bsep 9 (.string nl) := (hr3.1.block bsep d2.lt n2).trans d2
        have e3 : Boxed W3 bsave 3 (.int .i64 0) := (hr3.1.block bsave d3.lt n3).trans d3
        have k1' := e1.cell
        have k2' := e2.cell
        have f1' := e1.frozen
        have m1 : ¬ O2 bs := fun h => by have := d1.lt; rcases hr3.2 bs h with h | h <;> first | exact n1 h | omega
        have m2 : ¬ O2 bsep := fun h => by have := d2.lt; rcases hr3.2 bsep h with h | h <;> first | exact n2 h | omega
        have m3 : ¬ O2 bsave := fun h => by have := d3.lt; rcases hr3.2 bsave h with h | h <;> first | exact n3 h | omega
        gi_wp2
        have hb1 : base ≤ bs := (hC _ (.inl rfl)).1
        have g1 : Boxed (W3.setCell ⟨bs, 0, none⟩ (.string (r.extract (i + 1) r.size))) bs 9 (.string (r.extract (i + 1) r.size)) := e1.set _
        have hx : (r.extract (i + 1) r.size).size = r.size - (i + 1) := by rw [Lib.size_eq, Lib.extract_to_end, List.length_drop, ← Lib.size_eq]
        refine ⟨⟨pre ++ [r.extract 0 i], r.extract (i + 1) r.size, O2, by rw [hp, hpr]; simp, hJ _ _ _ _ hJ3 (Chg.setCell W3 bs _ ⟨hb1, m1⟩), g1, e2.other (fun e => hne1 e.symm) _, e3.other (fun e => hne2 e.symm) _, ⟨m1, m2, m3⟩, by omega⟩, ?_⟩
        rw [g1.cell, d1.cell]
        show (r.extract (i + 1) r.size).size < r.size
        omega
      · gi_wp2
        refine bodyPost_ret (results_none rfl _ _ _) rfl ?_
        exact ⟨⟨_, rfl⟩, .inr ⟨pre ++ [r.extract 0 i], O2, trivial, hJ3⟩⟩
end Go.Proofs.YtnnhijfbdkokkaaGreatDoor
