/- The walk of GrammarApart, from Awake's contract. No condition. -/
import Derived.Test.YtecpdgfpnjelmaaGreatDoorRa
import Derived.WalkKit
import Derived.WalkSpells
import Derived.WalkLawsBesides
namespace Go.Proofs.YtecpdgfpnjelmaaGreatDoor
open Go Go.RowKit

theorem term_any (n : Int) (w : World) : Calls Tryz.prog 8 #[.int .i64 n] w fun e w' => e = .returned (.agg #[.bool true, .int .i64 n, .int .i64 0]) ∧ w' = w.alloc (.cells #[.bool true, .int .i64 n, .int .i64 0] 24) := by
  go_enter Tryz.func8, Tryz.ntmps8
  go_wp2
  refine bodyPost_ret (v := .agg #[.bool true, .int .i64 n, .int .i64 0]) (by simp [results, Tryz.results8, go_sem]) rfl ⟨rfl, rfl⟩
theorem non_any (n : Int) (w : World) : Calls Tryz.prog 9 #[.int .i64 n] w fun e w' => e = .returned (.agg #[.bool false, .int .i64 0, .int .i64 n]) ∧ w' = w.alloc (.cells #[.bool false, .int .i64 0, .int .i64 n] 24) := by
  go_enter Tryz.func9, Tryz.ntmps9
  go_wp2
  refine bodyPost_ret (v := .agg #[.bool false, .int .i64 0, .int .i64 n]) (by simp [results, Tryz.results9, go_sem]) rfl ⟨rfl, rfl⟩
theorem sym_true (n : Int) (w : World) : Calls Tryz.prog 7 #[.int .i64 n, .bool true] w fun e w' => e = .returned (.agg #[.bool true, .int .i64 n, .int .i64 0]) ∧ ∃ o1 o2, w' = (w.alloc o1).alloc o2 := by
  go_enter Tryz.func7, Tryz.ntmps7
  go_wp2_with (first | (go_at_call 8; refine (term_any n _).mono ?_; rintro e w' ⟨rfl, rfl⟩) | (go_at_call 9; refine (non_any n _).mono ?_; rintro e w' ⟨rfl, rfl⟩))
  refine bodyPost_ret (v := .agg #[.bool true, .int .i64 n, .int .i64 0]) (by simp [results, Tryz.results7, go_sem]) rfl ⟨rfl, _, _, rfl⟩
theorem sym_false (n : Int) (w : World) : Calls Tryz.prog 7 #[.int .i64 n, .bool false] w fun e w' => e = .returned (.agg #[.bool false, .int .i64 0, .int .i64 n]) ∧ ∃ o1 o2, w' = (w.alloc o1).alloc o2 := by
  go_enter Tryz.func7, Tryz.ntmps7
  go_wp2_with (first | (go_at_call 8; refine (term_any n _).mono ?_; rintro e w' ⟨rfl, rfl⟩) | (go_at_call 9; refine (non_any n _).mono ?_; rintro e w' ⟨rfl, rfl⟩))
  refine bodyPost_ret (v := .agg #[.bool false, .int .i64 0, .int .i64 n]) (by simp [results, Tryz.results7, go_sem]) rfl ⟨rfl, _, _, rfl⟩
theorem below_alloc {w w1 : World} (h : Below w.heap.size w w1) (o : Obj) : Below w.heap.size w (w1.alloc o) := h.trans ((Eng.New.alloc w1 o).below h.size)

set_option maxRecDepth 20000 in
set_option maxHeartbeats 4000000 in
theorem apart_tt (a b : Int) (w : World) (hA : Calls Tryz.prog 6 #[] w fun e w' => e = .returned (.bool true) ∧ Below w.heap.size w w') : Calls Tryz.prog 3 #[.int .i64 a, .int .i64 b, .bool true, .bool true] w fun e w' => e = .returned (.bool true) ∧ Below w.heap.size w w' := by
  go_enter Tryz.func3, Tryz.ntmps3
  go_wp2_with (first | (go_at_call 6; refine hA.mono ?_; rintro e w1 ⟨rfl, hB⟩) | (go_at_call 7; (first | refine (sym_true a _).mono ?_ | refine (sym_true b _).mono ?_); rintro e w' ⟨rfl, _, _, rfl⟩))
  all_goals (go_ret; exact ⟨rfl, below_alloc (below_alloc (below_alloc (below_alloc hB _) _) _) _⟩)
set_option maxRecDepth 20000 in
set_option maxHeartbeats 4000000 in
theorem apart_tf (a b : Int) (w : World) (hA : Calls Tryz.prog 6 #[] w fun e w' => e = .returned (.bool true) ∧ Below w.heap.size w w') : Calls Tryz.prog 3 #[.int .i64 a, .int .i64 b, .bool true, .bool false] w fun e w' => e = .returned (.bool true) ∧ Below w.heap.size w w' := by
  go_enter Tryz.func3, Tryz.ntmps3
  go_wp2_with (first | (go_at_call 6; refine hA.mono ?_; rintro e w1 ⟨rfl, hB⟩) | (go_at_call 7; (first | refine (sym_true a _).mono ?_ | refine (sym_false b _).mono ?_); rintro e w' ⟨rfl, _, _, rfl⟩))
  all_goals (go_ret; exact ⟨rfl, below_alloc (below_alloc (below_alloc (below_alloc hB _) _) _) _⟩)
set_option maxRecDepth 20000 in
set_option maxHeartbeats 4000000 in
theorem apart_ft (a b : Int) (w : World) (hA : Calls Tryz.prog 6 #[] w fun e w' => e = .returned (.bool true) ∧ Below w.heap.size w w') : Calls Tryz.prog 3 #[.int .i64 a, .int .i64 b, .bool false, .bool true] w fun e w' => e = .returned (.bool true) ∧ Below w.heap.size w w' := by
  go_enter Tryz.func3, Tryz.ntmps3
  go_wp2_with (first | (go_at_call 6; refine hA.mono ?_; rintro e w1 ⟨rfl, hB⟩) | (go_at_call 7; (first | refine (sym_false a _).mono ?_ | refine (sym_true b _).mono ?_); rintro e w' ⟨rfl, _, _, rfl⟩))
  all_goals (go_ret; exact ⟨rfl, below_alloc (below_alloc (below_alloc (below_alloc hB _) _) _) _⟩)
set_option maxRecDepth 20000 in
set_option maxHeartbeats 4000000 in
theorem apart_ff (a b : Int) (w : World) (hA : Calls Tryz.prog 6 #[] w fun e w' => e = .returned (.bool true) ∧ Below w.heap.size w w') : Calls Tryz.prog 3 #[.int .i64 a, .int .i64 b, .bool false, .bool false] w fun e w' => e = .returned (.bool true) ∧ Below w.heap.size w w' := by
  go_enter Tryz.func3, Tryz.ntmps3
  go_wp2_with (first | (go_at_call 6; refine hA.mono ?_; rintro e w1 ⟨rfl, hB⟩) | (go_at_call 7; (first | refine (sym_false a _).mono ?_ | refine (sym_false b _).mono ?_); rintro e w' ⟨rfl, _, _, rfl⟩))
  all_goals (go_ret; exact ⟨rfl, below_alloc (below_alloc (below_alloc (below_alloc hB _) _) _) _⟩)
theorem apart_any (a b : Int) (t u : Bool) (w : World) (hA : Calls Tryz.prog 6 #[] w fun e w' => e = .returned (.bool true) ∧ Below w.heap.size w w') : Calls Tryz.prog 3 #[.int .i64 a, .int .i64 b, .bool t, .bool u] w fun e w' => e = .returned (.bool true) ∧ Below w.heap.size w w' := by
  cases t <;> cases u
  · exact apart_ff a b w hA
  · exact apart_ft a b w hA
  · exact apart_tf a b w hA
  · exact apart_tt a b w hA
end Go.Proofs.YtecpdgfpnjelmaaGreatDoor
