/- With the forms of requests among the variables: chapters 19 to 21 are awake. No condition. -/
import Derived.Test.YtnnhijfbdkokkaaGreatDoorRk18
namespace Go.Proofs.YtnnhijfbdkokkaaGreatDoor
open Go Go.Eng
noncomputable section
set_option maxRecDepth 100000

def formsG : List Gv := [⟨0, [.str [112, 97, 114, 115, 101], .slice 500 0 3 3 1, .str [100, 101, 115, 99, 114, 105, 98, 101], .slice 501 0 2 2 1, .str [112, 114, 101, 118, 105, 101, 119], .slice 502 0 7 7 1, .str [99, 104, 101, 99, 107], .slice 503 0 1 1 1], 109⟩,
  ⟨500, [.int .i64 0, .int .i64 1, .int .i64 3], unkT⟩,
  ⟨501, [.int .i64 0, .int .i64 3], unkT⟩,
  ⟨502, [.int .i64 0, .int .i64 1, .int .i64 1, .int .i64 1, .int .i64 2, .int .i64 2, .int .i64 3], unkT⟩,
  ⟨503, [.int .i64 3], unkT⟩]
def gl2 : List Gv := formsG ++ gl
theorem glOK2 : GlOK gl2 :=
  ⟨fun x hx => Nat.le_of_ble_eq_true (allB_spec (p := fun x => Nat.ble (x.g + 1) gN) (l := gl2) (by kernel_rfl) x hx), fun x hx a ha => allB_spec (p := lowA) (allB_spec (p := fun x => allB lowA x.cs) (l := gl2) (by kernel_rfl) x hx) a ha⟩
theorem hasG_tail {s : St} : ∀ {a b : List Gv}, hasG (a ++ b) s = true → hasG b s = true
  | [], _, h => h
  | x :: a, b, h => by
    have h : hasG (x :: (a ++ b)) s = true := h
    unfold hasG at h
    split at h
    · rw [Bool.and_eq_true, Bool.and_eq_true] at h
      exact hasG_tail h.2
    · cases h
theorem known_more {f : FuncId} {i : Img} (h : KnownI Tryz.prog gl f i) : KnownI Tryz.prog gl2 f i := fun B ρ σ s w hR hg => h B ρ σ s w hR (hasG_tail (a := formsG) hg)
def EM2 (rows : List (FuncId × Img)) : Env := { E0 with memo := memoI gl2 rows }
theorem knows2 (rows : List (FuncId × Img)) (h : ∀ x ∈ rows, KnownI Tryz.prog gl2 x.1 x.2) {f : FuncId} {n : Nat} {m : List Nat} {i : Img} (run : imgRun (EM2 rows) gl2 f n m i = true) : KnownI Tryz.prog gl2 f i :=
  KnownI.of (E := EM2 rows) (fun σ => (envOK.with _).quiet rfl σ) (MemoOK.ofI (E := E0) h) glOK2 run
theorem run19 : imgRun (EM2 [(14, yes), (81, englishImg), (82, germanImg), (83, frenchImg), (84, polishImg), (133, phrasesImg)]) gl2 24 80000 [] yes = true := by kernel_rfl
theorem know19 : KnownI Tryz.prog gl2 24 yes := knows2 [(14, yes), (81, englishImg), (82, germanImg), (83, frenchImg), (84, polishImg), (133, phrasesImg)] (by
  intro x hx
  simp only [List.mem_cons, List.mem_nil_iff, or_false] at hx
  rcases hx with rfl | rfl | rfl | rfl | rfl | rfl
  · exact known_more know18
  · exact known_more knowenglish
  · exact known_more knowgerman
  · exact known_more knowfrench
  · exact known_more knowpolish
  · exact known_more knowphrases) run19
theorem run20 : imgRun (EM2 [(24, yes), (81, englishImg), (82, germanImg), (83, frenchImg), (84, polishImg), (133, phrasesImg)]) gl2 32 80000 [] yes = true := by kernel_rfl
theorem know20 : KnownI Tryz.prog gl2 32 yes := knows2 [(24, yes), (81, englishImg), (82, germanImg), (83, frenchImg), (84, polishImg), (133, phrasesImg)] (by
  intro x hx
  simp only [List.mem_cons, List.mem_nil_iff, or_false] at hx
  rcases hx with rfl | rfl | rfl | rfl | rfl | rfl
  · exact know19
  · exact known_more knowenglish
  · exact known_more knowgerman
  · exact known_more knowfrench
  · exact known_more knowpolish
  · exact known_more knowphrases) run20
theorem run21 : imgRun (EM2 [(32, yes), (81, englishImg), (82, germanImg), (83, frenchImg), (84, polishImg), (133, phrasesImg)]) gl2 40 80000 [] yes = true := by kernel_rfl
theorem know21 : KnownI Tryz.prog gl2 40 yes := knows2 [(32, yes), (81, englishImg), (82, germanImg), (83, frenchImg), (84, polishImg), (133, phrasesImg)] (by
  intro x hx
  simp only [List.mem_cons, List.mem_nil_iff, or_false] at hx
  rcases hx with rfl | rfl | rfl | rfl | rfl | rfl
  · exact know20
  · exact known_more knowenglish
  · exact known_more knowgerman
  · exact known_more knowfrench
  · exact known_more knowpolish
  · exact known_more knowphrases) run21
end
end Go.Proofs.YtnnhijfbdkokkaaGreatDoor
