/- Grammars of small numbers; the document's own words for them. No condition. -/
import Derived.Test.YtddeekefomhbmaaGreatDoorAa
namespace Go.Proofs.YtddeekefomhbmaaGreatDoor

/-- A grammar of small numbers. -/
def makeS (n : Nat) : Option Nat := if n % 2 = 0 then none else some (n / 2 % 4)
def makeR (g : Nat × List Nat) : GRule := (g.1 % 4, g.2.map makeS)
def makeG (gs : List (Nat × List Nat)) : List GRule := gs.map makeR
theorem makeG_lt {gs : List (Nat × List Nat)} : ∀ r ∈ makeG gs, r.1 < 4 := fun r hr => by
  obtain ⟨g, _, rfl⟩ := List.mem_map.1 hr
  exact Nat.mod_lt _ (by omega)
theorem makeG_more {gs ms : List (Nat × List Nat)} : ∀ r ∈ makeG gs, r ∈ makeG (gs ++ ms) := fun r hr => by
  unfold makeG; rw [List.map_append]; exact List.mem_append_left _ hr
theorem nul_iff {gs : List (Nat × List Nat)} {n : Nat} : Nul (makeG gs) n ↔ nul (makeG gs) 5 n = true :=
  ⟨fun h => nul_le (h.depth makeG_lt) (by omega), fun h => ⟨5, h⟩⟩

/-! ### Ways, from the front -/
def Ahd (R : List GRule) : Nat → Nat → Nat → Prop
  | 0, _, _ => False
  | d + 1, n, k => Step R n k ∨ ∃ m, Step R n m ∧ Ahd R d m k
theorem Ahd.way {R : List GRule} : ∀ {d n k : Nat}, Ahd R d n k → Way R d n k
  | 0, _, _, h => h
  | d + 1, n, k, h => by
    rcases h with h | ⟨m, h1, h2⟩
    · exact .inl h
    · have h3 : Way R 1 n m := .inl h1
      exact (h3.join h2.way).le (by omega)
theorem Ahd.up {R : List GRule} : ∀ {d n k : Nat}, Ahd R d n k → Ahd R (d + 1) n k
  | 0, _, _, h => h.elim
  | d + 1, n, k, h => by
    rcases h with h | ⟨m, h1, h2⟩
    · exact .inl h
    · exact .inr ⟨m, h1, h2.up⟩
theorem Ahd.le {R : List GRule} {d e n k : Nat} (h : Ahd R d n k) (hd : d ≤ e) : Ahd R e n k := by
  obtain ⟨j, rfl⟩ := Nat.exists_eq_add_of_le hd
  induction j with
  | zero => exact h
  | succ j ih => exact (ih (by omega)).up
theorem Ahd.snoc {R : List GRule} : ∀ {d n m k : Nat}, Ahd R d n m → Step R m k → Ahd R (d + 1) n k
  | 0, _, _, _, h, _ => h.elim
  | d + 1, n, m, k, h, hs => by
    rcases h with h | ⟨q, h1, h2⟩
    · exact .inr ⟨m, h, .inl hs⟩
    · exact .inr ⟨q, h1, h2.snoc hs⟩
theorem Way.ahd {R : List GRule} : ∀ {d n k : Nat}, Way R d n k → Ahd R d n k
  | 0, _, _, h => h
  | d + 1, n, k, h => by
    rcases h with h | ⟨m, h1, h2⟩
    · exact .inl h
    · exact h1.ahd.snoc h2
theorem loopy_iff {gs : List (Nat × List Nat)} : Loopy (makeG gs) ↔ ∃ n, n < 4 ∧ Ahd (makeG gs) 4 n n := by
  constructor
  · intro h
    obtain ⟨n, hn, hw⟩ := h.short makeG_lt
    exact ⟨n, hn, hw.ahd⟩
  · rintro ⟨n, _, h⟩
    exact ⟨n, 4, h.way⟩
end Go.Proofs.YtddeekefomhbmaaGreatDoor
