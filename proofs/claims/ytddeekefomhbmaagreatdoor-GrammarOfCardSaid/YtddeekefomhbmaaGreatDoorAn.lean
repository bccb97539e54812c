/- Is a grammar small enough? No condition. -/
import Derived.Test.YtddeekefomhbmaaGreatDoorAk
import Derived.Test.YtddeekefomhbmaaGreatDoorAi
namespace Go.Proofs.YtddeekefomhbmaaGreatDoor
open Go Go.RowKit Go.Shelf
attribute [local go_sem] Oper.semAt_some

def lightG (gs : List (Nat × List Nat)) : Bool := (gs.all fun g => decide (g.2.length ≤ 4)) && decide (gs.length ≤ 10)
theorem lightG_iff {gs : List (Nat × List Nat)} : lightG gs = true ↔ (∀ g ∈ gs, g.2.length ≤ 4) ∧ gs.length ≤ 10 := by
  simp [lightG]
/-- Lengths that a machine holds; small numbers. -/
def FitG (gs : List (Nat × List Nat)) : Prop := (∀ y ∈ gs, y.1 < 256 ∧ (∀ z ∈ y.2, z < 256) ∧ y.2.length ≤ maxLen) ∧ gs.length ≤ maxLen

set_option maxRecDepth 100000 in
set_option maxHeartbeats 2000000 in
theorem light_calls (v : Value) (gs : List (Nat × List Nat)) (w : World) (hG : ∀ W, Below w.heap.size w W → RowG W v gs) (hF : FitG gs) :
    Calls Tryz.prog 7 #[v] w fun e w' => e = .returned (.bool (lightG gs)) ∧ Below w.heap.size w w' := by
  have t32 := Tryz.underlying32; have a32 := Tryz.isAgg32; have z32 := Tryz.sizeOf32; have u32 := run_underlying Tryz.underlying32
  obtain ⟨va, vc, rfl⟩ := rowG_form (hG w (Below.refl _ _))
  have hlm : gs.length ≤ 9223372036854775807 := hF.2
  go_enter Tryz.func7, Tryz.ntmps7
  go_wp2
  go_loopw [7] (fun i W => ∃ k : Nat, k ≤ gs.length ∧ i = .int .i64 k ∧ Hid (∀ g ∈ gs.take k, g.2.length ≤ 4) ∧ Hid (Below w.heap.size w W)) (fun i _ => gs.length - (valI i).toNat)
  case atStart => exact ⟨0, Nat.zero_le _, rfl, hid' (fun g hg => by simp at hg), hid' (Below.refl _ _)⟩
  case round =>
    rename World => wq
    obtain ⟨k, hk, rfl, hA, hB⟩ := hrel
    by_cases hkn : k < gs.length
    · obtain ⟨g, hg⟩ : ∃ g, gs[k]? = some g := ⟨_, List.getElem?_eq_getElem hkn⟩
      obtain ⟨b, o, s, rfl, c0, c1, hU⟩ : ∃ b o s, va = some ⟨b, o, none⟩ ∧ wq.cell? ⟨b, o + k * 2, none⟩ = some (.int .u8 (g.1 : Int)) ∧ wq.cell? ⟨b, o + k * 2 + 1, none⟩ = some s ∧ RowU wq s g.2 := by
        rcases hG wq hB.out with ⟨a, c, _, e⟩ | ⟨b, o, c, e, h⟩
        · rw [e] at hg; simp at hg
        · obtain ⟨h1, s, h2, h3⟩ := h k g hg
          have e : va = some ⟨b, o, none⟩ := by injection e
          exact ⟨b, o, s, e, by rw [Nat.mul_comm]; exact h1, by rw [Nat.mul_comm k 2, Nat.add_assoc]; exact h2, h3⟩
      obtain ⟨sx, sc, rfl⟩ := rowU_form hU
      clear hU
      have k1 : (k : Int) < (gs.length : Int) := by omega
      have hgl : g.2.length ≤ 9223372036854775807 := (hF.1 g (List.mem_of_getElem? hg)).2.2
      by_cases h4 : g.2.length ≤ 4
      · have h5 : ¬ ((4 : Int) < (g.2.length : Int)) := by omega
        go_wp2
        refine ⟨⟨k + 1, by omega, by go_num, hid' fun g' hg' => ?_, hid' (hB.out.alloc hB.out.size _)⟩, by simp [valI]; omega⟩
        rw [List.take_add_one, hg] at hg'
        rcases List.mem_append.1 hg' with h | h
        · exact hA.out g' h
        · have : g' = g := by simpa using h
          rw [this]; exact h4
      · have h5 : ((4 : Int) < (g.2.length : Int)) := by omega
        have hf : lightG gs = false := by
          cases h : lightG gs with
          | false => rfl
          | true => exact absurd ((lightG_iff.1 h).1 g (List.mem_of_getElem? hg)) h4
        go_wp2
        refine bodyPost_ret (results_tmp rfl _ _ _) rfl ⟨by rw [hf]; rfl, hB.out.alloc hB.out.size _⟩
    · have hgk : gs.take k = gs := List.take_of_length_le (by omega)
      have hlt : lightG gs = decide (gs.length ≤ 10) := by
        have := hA.out
        rw [hgk] at this
        unfold lightG
        rw [List.all_eq_true.2 (fun g hg => by simpa using this g hg), Bool.true_and]
      clear hgk
      have HL := hid' hlt
      clear hlt
      go_wp2
      refine bodyPost_ret (results_tmp rfl _ _ _) rfl ⟨?_, hB.out⟩
      rw [HL.out]
      congr 2
      simp
      omega
end Go.Proofs.YtddeekefomhbmaaGreatDoor
