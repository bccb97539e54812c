/- The keys of a map of numbers, collected. No condition. -/
import Derived.Test.YtddeekefomhbmaaGreatDoorSk
import Derived.Test.YtddeekefomhbmaaGreatDoorAi
namespace Go.Proofs.YtddeekefomhbmaaGreatDoor
open Go Go.RowKit Go.Shelf Go.Maps

theorem keys_calls (mb : Option Nat) (W : World) : Calls Tryz.prog 27 #[.map mb] W fun e w' => e = .returned (.func (.func 48) #[] #[.pointer (some ⟨W.heap.size, 0, none⟩)]) ∧ w' = W.alloc (.cells #[.map mb] 69) :=
  (callsIn_wide (n := 5)).1 (AnyZI.keys_in Tryz.keysI Fence.wide 5 trivial rfl mb W)
theorem collect_calls {D : DataW Unit} {R : Value → Option (DataW Unit × List MemPlace)} {b nn : Nat} {W : World} (hown : W.ownsMap Tryz.prog 3 R b nn D) (hs : Maps.size D ≤ 10000) :
    Calls Tryz.prog 26 #[.func (.func 48) #[] #[.pointer (some ⟨W.heap.size, 0, none⟩)]] (W.alloc (.cells #[.map (some b)] 69)) fun e w' => ∃ (v : Value) (ss : List Int), e = .returned v ∧ ss.Perm (intKeys D) ∧ w'.ownsRow (W.heap.size + 1) 3 1 v ss.length (ss.map encZ) ∧ Below (W.heap.size + 1) (W.alloc (.cells #[.map (some b)] 69)) w' := by
  have hbl := hown.lt
  have hseq : SeqGives Fence.wide 2 Tryz.prog 48 #[.pointer (some ⟨W.heap.size, 0, none⟩)] encZ (fun ss => ss.Perm (intKeys D)) (Maps.size D) (W.alloc (.cells #[.map (some b)] 69)) :=
    AnyZI.keys_gives (ρ := Tryz.keysI_ren) { Tryz.keysI with } Fence.wide _ trivial rfl (by omega) W.heap.size b nn D _ (by simp) (by simp) (hown.alloc _)
  have cC := AnyZI.collect_in (ρ := Tryz.collI_ren) Tryz.collI Fence.wide 4 trivial trivial rfl (by omega) 48 #[.pointer (some ⟨W.heap.size, 0, none⟩)] trivial (enters_of Tryz.func48 (by kernel_rfl) rfl) _ _ (by unfold maxLen; omega) (by omega) _ hseq
  refine (callsIn_wide.1 cC).mono ?_
  rintro e w' ⟨v, ss, rfl, hS, hrow, _, hb⟩
  have e1 : (W.alloc (.cells #[.map (some b)] 69)).heap.size = W.heap.size + 1 := by simp
  rw [e1] at hrow hb
  exact ⟨v, ss, rfl, hS, hrow, hb⟩
end Go.Proofs.YtddeekefomhbmaaGreatDoor
