/- Runs of closed calls, by the kernel. Runs of closed calls, by the kernel. Runs of closed calls, by the kernel. Runs of closed calls, by the kernel. Runs of closed calls, by the kernel. Runs of closed calls, by the kernel. No condition. -/
import Derived.Test.YtjhnpcnamclfbaaGreatDoorMb
/-! Runs of closed calls, by the kernel. -/
namespace Go.Proofs.YtjhnpcnamclfbaaGreatDoor
open Go Go.Eng

set_option maxRecDepth 100000
theorem run09 : imgRun (EM [(361, yes), (43, englishImg), (44, germanImg), (45, frenchImg), (46, polishImg)]) gl 356 40000 [] yes = true := by kernel_rfl
theorem know09 : KnownI Tryz.prog gl 356 yes := knows [(361, yes), (43, englishImg), (44, germanImg), (45, frenchImg), (46, polishImg)] (by
  intro x hx
  simp only [List.mem_cons, List.mem_nil_iff, or_false] at hx
  rcases hx with rfl | rfl | rfl | rfl | rfl
  · exact know08
  · exact knowenglish
  · exact knowgerman
  · exact knowfrench
  · exact knowpolish) run09
theorem run10 : imgRun (EM [(356, yes), (43, englishImg), (44, germanImg), (45, frenchImg), (46, polishImg)]) gl 350 40000 [] yes = true := by kernel_rfl
theorem know10 : KnownI Tryz.prog gl 350 yes := knows [(356, yes), (43, englishImg), (44, germanImg), (45, frenchImg), (46, polishImg)] (by
  intro x hx
  simp only [List.mem_cons, List.mem_nil_iff, or_false] at hx
  rcases hx with rfl | rfl | rfl | rfl | rfl
  · exact know09
  · exact knowenglish
  · exact knowgerman
  · exact knowfrench
  · exact knowpolish) run10

end Go.Proofs.YtjhnpcnamclfbaaGreatDoor

/-! Runs of closed calls, by the kernel. -/
namespace Go.Proofs.YtjhnpcnamclfbaaGreatDoor
open Go Go.Eng

set_option maxRecDepth 100000
theorem run11 : imgRun (EM [(350, yes), (43, englishImg), (44, germanImg), (45, frenchImg), (46, polishImg)]) gl 338 40000 [] yes = true := by kernel_rfl
theorem know11 : KnownI Tryz.prog gl 338 yes := knows [(350, yes), (43, englishImg), (44, germanImg), (45, frenchImg), (46, polishImg)] (by
  intro x hx
  simp only [List.mem_cons, List.mem_nil_iff, or_false] at hx
  rcases hx with rfl | rfl | rfl | rfl | rfl
  · exact know10
  · exact knowenglish
  · exact knowgerman
  · exact knowfrench
  · exact knowpolish) run11

end Go.Proofs.YtjhnpcnamclfbaaGreatDoor

/-! Runs of closed calls, by the kernel. -/
namespace Go.Proofs.YtjhnpcnamclfbaaGreatDoor
open Go Go.Eng

set_option maxRecDepth 100000
def phrasesNames : List Nat := [1173, 1008, 1013, 1016, 1020, 1023, 1026, 1029, 1031, 1033, 1051, 1054, 1060, 1064, 1070, 1073, 1079, 1082, 1088, 1091, 1094, 1098, 1109, 1113, 1120, 1124, 1131, 1133, 1136, 1145, 1149, 1156, 1159, 1166, 1168]
noncomputable def phrasesImg : Img := ⟨.agg [.slice 1000 0 34 34 3], [
  .cells [.int .i64 0, .slice 1001 0 6 6 3, .int .i64 0, .int .i64 1, .slice 1002 0 1 1 3, .int .i64 1, .int .i64 1, .slice 1003 0 2 2 3, .int .i64 2, .int .i64 1, .slice 1004 0 3 3 3, .int .i64 3, .int .i64 1, .slice 1005 0 2 2 3, .int .i64 4, .int .i64 1, .slice 1006 0 2 2 3, .int .i64 5, .int .i64 1, .slice 1007 0 2 2 3, .int .i64 6, .int .i64 1, .slice 1008 0 1 1 3, .int .i64 7, .int .i64 1, .slice 1009 0 1 1 3, .int .i64 8, .int .i64 2, .slice 1010 0 0 0 3, .int .i64 9, .int .i64 2, .slice 1011 0 2 2 3, .int .i64 10, .int .i64 3, .slice 1012 0 0 0 3, .int .i64 11, .int .i64 3, .slice 1013 0 3 3 3, .int .i64 12, .int .i64 4, .slice 1014 0 0 0 3, .int .i64 13, .int .i64 4, .slice 1015 0 2 2 3, .int .i64 14, .int .i64 5, .slice 1016 0 0 0 3, .int .i64 15, .int .i64 5, .slice 1017 0 2 2 3, .int .i64 16, .int .i64 6, .slice 1018 0 0 0 3, .int .i64 17, .int .i64 6, .slice 1019 0 2 2 3, .int .i64 18, .int .i64 6, .slice 1020 0 2 2 3, .int .i64 19, .int .i64 6, .slice 1021 0 3 3 3, .int .i64 20, .int .i64 7, .slice 1022 0 1 1 3, .int .i64 21, .int .i64 7, .slice 1023 0 3 3 3, .int .i64 22, .int .i64 8, .slice 1024 0 1 1 3, .int .i64 23, .int .i64 8, .slice 1025 0 3 3 3, .int .i64 24, .int .i64 9, .slice 1026 0 1 1 3, .int .i64 25, .int .i64 9, .slice 1027 0 1 1 3, .int .i64 26, .int .i64 9, .slice 1028 0 2 2 3, .int .i64 27, .int .i64 10, .slice 1029 0 1 1 3, .int .i64 28, .int .i64 10, .slice 1030 0 3 3 3, .int .i64 29, .int .i64 11, .slice 1031 0 1 1 3, .int .i64 30, .int .i64 11, .slice 1032 0 2 2 3, .int .i64 31, .int .i64 12, .slice 1033 0 1 1 3, .int .i64 32, .int .i64 12, .slice 1034 0 1 1 3, .int .i64 33] 1000243 true,
  .cells [.bool false, .int .i64 0, .int .i64 1, .bool false, .int .i64 0, .int .i64 2, .bool false, .int .i64 0, .int .i64 3, .bool false, .int .i64 0, .int .i64 4, .bool false, .int .i64 0, .int .i64 5, .bool false, .int .i64 0, .int .i64 6] 246 true,
  .cells [.bool true, .int .i64 3, .int .i64 0] 246 true,
  .cells [.bool true, .int .i64 0, .int .i64 0, .bool true, .int .i64 2, .int .i64 0] 246 true,
  .cells [.bool true, .int .i64 0, .int .i64 0, .bool true, .int .i64 16, .int .i64 0, .bool true, .int .i64 2, .int .i64 0] 246 true,
  .cells [.bool true, .int .i64 1, .int .i64 0, .bool true, .int .i64 2, .int .i64 0] 246 true,
  .cells [.bool true, .int .i64 0, .int .i64 0, .bool true, .int .i64 14, .int .i64 0] 246 true,
  .cells [.bool true, .int .i64 1, .int .i64 0, .bool true, .int .i64 14, .int .i64 0] 246 true,
  .cells [.bool true, .int .i64 4, .int .i64 0] 246 true,
  .cells [.bool true, .int .i64 4, .int .i64 0] 246 true,
  .cells [] 246 true,
  .cells [.bool true, .int .i64 5, .int .i64 0, .bool false, .int .i64 0, .int .i64 7] 246 true,
  .cells [] 246 true,
  .cells [.bool true, .int .i64 6, .int .i64 0, .bool false, .int .i64 0, .int .i64 8, .bool true, .int .i64 2, .int .i64 0] 246 true,
  .cells [] 246 true,
  .cells [.bool true, .int .i64 6, .int .i64 0, .bool false, .int .i64 0, .int .i64 10] 246 true,
  .cells [] 246 true,
  .cells [.bool true, .int .i64 7, .int .i64 0, .bool false, .int .i64 0, .int .i64 8] 246 true,
  .cells [] 246 true,
  .cells [.bool true, .int .i64 8, .int .i64 0, .bool true, .int .i64 18, .int .i64 0] 246 true,
  .cells [.bool true, .int .i64 8, .int .i64 0, .bool true, .int .i64 13, .int .i64 0] 246 true,
  .cells [.bool true, .int .i64 9, .int .i64 0, .bool true, .int .i64 16, .int .i64 0, .bool true, .int .i64 12, .int .i64 0] 246 true,
  .cells [.bool true, .int .i64 13, .int .i64 0] 246 true,
  .cells [.bool true, .int .i64 13, .int .i64 0, .bool false, .int .i64 0, .int .i64 12, .bool false, .int .i64 0, .int .i64 7] 246 true,
  .cells [.bool false, .int .i64 0, .int .i64 9] 246 true,
  .cells [.bool false, .int .i64 0, .int .i64 9, .bool false, .int .i64 0, .int .i64 12, .bool false, .int .i64 0, .int .i64 8] 246 true,
  .cells [.bool true, .int .i64 17, .int .i64 0] 246 true,
  .cells [.bool true, .int .i64 11, .int .i64 0] 246 true,
  .cells [.bool true, .int .i64 17, .int .i64 0, .bool true, .int .i64 11, .int .i64 0] 246 true,
  .cells [.bool false, .int .i64 0, .int .i64 11] 246 true,
  .cells [.bool false, .int .i64 0, .int .i64 11, .bool false, .int .i64 0, .int .i64 12, .bool false, .int .i64 0, .int .i64 10] 246 true,
  .cells [.bool true, .int .i64 14, .int .i64 0] 246 true,
  .cells [.bool false, .int .i64 0, .int .i64 9, .bool true, .int .i64 14, .int .i64 0] 246 true,
  .cells [.bool true, .int .i64 15, .int .i64 0] 246 true,
  .cells [.bool true, .int .i64 10, .int .i64 0] 246 true]⟩

theorem runphrases : imgRun (EM []) gl 104 40000 phrasesNames phrasesImg = true := by kernel_rfl
theorem knowphrases : KnownI Tryz.prog gl 104 phrasesImg := knows [] (fun _ h => by cases h) runphrases

end Go.Proofs.YtjhnpcnamclfbaaGreatDoor

/-! Runs of closed calls, by the kernel. -/
namespace Go.Proofs.YtjhnpcnamclfbaaGreatDoor
open Go Go.Eng

set_option maxRecDepth 100000
theorem run12 : imgRun (EM [(338, yes), (43, englishImg), (44, germanImg), (45, frenchImg), (46, polishImg), (104, phrasesImg)]) gl 322 80000 [] yes = true := by kernel_rfl
theorem know12 : KnownI Tryz.prog gl 322 yes := knows [(338, yes), (43, englishImg), (44, germanImg), (45, frenchImg), (46, polishImg), (104, phrasesImg)] (by
  intro x hx
  simp only [List.mem_cons, List.mem_nil_iff, or_false] at hx
  rcases hx with rfl | rfl | rfl | rfl | rfl | rfl
  · exact know11
  · exact knowenglish
  · exact knowgerman
  · exact knowfrench
  · exact knowpolish
  · exact knowphrases) run12

end Go.Proofs.YtjhnpcnamclfbaaGreatDoor

/-! Runs of closed calls, by the kernel. -/
namespace Go.Proofs.YtjhnpcnamclfbaaGreatDoor
open Go Go.Eng

set_option maxRecDepth 100000
theorem run13 : imgRun (EM [(322, yes), (43, englishImg), (44, germanImg), (45, frenchImg), (46, polishImg), (104, phrasesImg)]) gl 296 80000 [] yes = true := by kernel_rfl
theorem know13 : KnownI Tryz.prog gl 296 yes := knows [(322, yes), (43, englishImg), (44, germanImg), (45, frenchImg), (46, polishImg), (104, phrasesImg)] (by
  intro x hx
  simp only [List.mem_cons, List.mem_nil_iff, or_false] at hx
  rcases hx with rfl | rfl | rfl | rfl | rfl | rfl
  · exact know12
  · exact knowenglish
  · exact knowgerman
  · exact knowfrench
  · exact knowpolish
  · exact knowphrases) run13

end Go.Proofs.YtjhnpcnamclfbaaGreatDoor

/-! Runs of closed calls, by the kernel. -/
namespace Go.Proofs.YtjhnpcnamclfbaaGreatDoor
open Go Go.Eng

set_option maxRecDepth 100000
theorem run14 : imgRun (EM [(296, yes), (43, englishImg), (44, germanImg), (45, frenchImg), (46, polishImg), (104, phrasesImg)]) gl 287 80000 [] yes = true := by kernel_rfl
theorem know14 : KnownI Tryz.prog gl 287 yes := knows [(296, yes), (43, englishImg), (44, germanImg), (45, frenchImg), (46, polishImg), (104, phrasesImg)] (by
  intro x hx
  simp only [List.mem_cons, List.mem_nil_iff, or_false] at hx
  rcases hx with rfl | rfl | rfl | rfl | rfl | rfl
  · exact know13
  · exact knowenglish
  · exact knowgerman
  · exact knowfrench
  · exact knowpolish
  · exact knowphrases) run14

end Go.Proofs.YtjhnpcnamclfbaaGreatDoor
