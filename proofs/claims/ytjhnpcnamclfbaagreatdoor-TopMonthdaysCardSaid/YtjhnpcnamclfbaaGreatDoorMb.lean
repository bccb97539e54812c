/- Runs of closed calls, by the kernel. Runs of closed calls, by the kernel. Runs of closed calls, by the kernel. Runs of closed calls, by the kernel. The words' tables in memory; numerals; what lies ahead of a year, months by the document. No condition. -/
import Derived.Test.YtjhnpcnamclfbaaGreatDoorRe
import Derived.Test.YtjhnpcnamclfbaaGreatDoorRb
import Derived.Test.YtjhnpcnamclfbaaGreatDoorE14
/-! Runs of closed calls, by the kernel. -/
namespace Go.Proofs.YtjhnpcnamclfbaaGreatDoor
open Go Go.Eng

set_option maxRecDepth 100000
def englishNames : List Nat := [1002, 1001, 1005, 1008, 1011, 1012, 1013, 1014, 1017, 1018, 1019, 1020, 1023, 1024, 1025, 1026, 1029, 1032, 1035, 1038, 1041, 1044, 1047, 1050, 1053, 1054, 1055, 1056, 1057, 1058, 1059, 1060, 1061, 1062, 1063, 1064, 1067, 1068, 1069, 1070, 1071, 1072, 1073]
noncomputable def englishImg : Img := ⟨.ptr 1000 0, [
  .cells [.str [101,110], .int .i64 0, .int .i64 0, .map 1001] 47 true,
  .map [(.agg [.int .i64 0, .int .i64 0], .slice 1002 0 2 2 1, 0), (.agg [.int .i64 1, .int .i64 0], .slice 1003 0 2 2 1, 1), (.agg [.int .i64 2, .int .i64 0], .slice 1004 0 3 3 1, 2), (.agg [.int .i64 2, .int .i64 1], .slice 1005 0 3 3 1, 3), (.agg [.int .i64 2, .int .i64 2], .slice 1006 0 3 3 1, 4), (.agg [.int .i64 2, .int .i64 3], .slice 1007 0 3 3 1, 5), (.agg [.int .i64 3, .int .i64 0], .slice 1008 0 1 1 1, 6), (.agg [.int .i64 3, .int .i64 1], .slice 1009 0 1 1 1, 7), (.agg [.int .i64 3, .int .i64 2], .slice 1010 0 1 1 1, 8), (.agg [.int .i64 3, .int .i64 3], .slice 1011 0 2 2 1, 9), (.agg [.int .i64 4, .int .i64 0], .slice 1012 0 1 1 1, 10), (.agg [.int .i64 4, .int .i64 1], .slice 1013 0 1 1 1, 11), (.agg [.int .i64 4, .int .i64 2], .slice 1014 0 1 1 1, 12), (.agg [.int .i64 4, .int .i64 3], .slice 1015 0 2 2 1, 13), (.agg [.int .i64 5, .int .i64 0], .slice 1016 0 1 1 1, 14), (.agg [.int .i64 6, .int .i64 0], .slice 1017 0 2 2 1, 15), (.agg [.int .i64 7, .int .i64 0], .slice 1018 0 2 2 1, 16), (.agg [.int .i64 8, .int .i64 0], .slice 1019 0 2 2 1, 17), (.agg [.int .i64 9, .int .i64 0], .slice 1020 0 1 1 1, 18), (.agg [.int .i64 10, .int .i64 0], .slice 1021 0 1 1 1, 19), (.agg [.int .i64 11, .int .i64 0], .slice 1022 0 2 2 1, 20), (.agg [.int .i64 12, .int .i64 0], .slice 1023 0 3 3 1, 21), (.agg [.int .i64 13, .int .i64 0], .slice 1024 0 2 2 1, 22), (.agg [.int .i64 13, .int .i64 1], .slice 1025 0 2 2 1, 23), (.agg [.int .i64 13, .int .i64 2], .slice 1026 0 2 2 1, 24), (.agg [.int .i64 13, .int .i64 3], .slice 1027 0 2 2 1, 25), (.agg [.int .i64 13, .int .i64 4], .slice 1028 0 1 1 1, 26), (.agg [.int .i64 13, .int .i64 5], .slice 1029 0 2 2 1, 27), (.agg [.int .i64 13, .int .i64 6], .slice 1030 0 2 2 1, 28), (.agg [.int .i64 13, .int .i64 7], .slice 1031 0 2 2 1, 29), (.agg [.int .i64 13, .int .i64 8], .slice 1032 0 2 2 1, 30), (.agg [.int .i64 13, .int .i64 9], .slice 1033 0 2 2 1, 31), (.agg [.int .i64 13, .int .i64 10], .slice 1034 0 2 2 1, 32), (.agg [.int .i64 13, .int .i64 11], .slice 1035 0 2 2 1, 33), (.agg [.int .i64 14, .int .i64 0], .slice 1036 0 3 3 1, 34), (.agg [.int .i64 14, .int .i64 1], .slice 1037 0 3 3 1, 35), (.agg [.int .i64 14, .int .i64 2], .slice 1038 0 3 3 1, 36), (.agg [.int .i64 14, .int .i64 3], .slice 1039 0 3 3 1, 37), (.agg [.int .i64 14, .int .i64 4], .slice 1040 0 3 3 1, 38), (.agg [.int .i64 14, .int .i64 5], .slice 1041 0 3 3 1, 39), (.agg [.int .i64 14, .int .i64 6], .slice 1042 0 3 3 1, 40)] 41,
  .cells [.str [101,118,101,114,121], .str [101,97,99,104]] 9 true,
  .cells [.str [101,118,101,114,121,32,111,116,104,101,114], .str [101,118,101,114,121,32,115,101,99,111,110,100]] 9 true,
  .cells [.str [100,97,121], .str [100,97,121,115], .str [100,97,121,115]] 9 true,
  .cells [.str [119,101,101,107], .str [119,101,101,107,115], .str [119,101,101,107,115]] 9 true,
  .cells [.str [109,111,110,116,104], .str [109,111,110,116,104,115], .str [109,111,110,116,104,115]] 9 true,
  .cells [.str [121,101,97,114], .str [121,101,97,114,115], .str [121,101,97,114,115]] 9 true,
  .cells [.str [100,97,105,108,121]] 9 true,
  .cells [.str [119,101,101,107,108,121]] 9 true,
  .cells [.str [109,111,110,116,104,108,121]] 9 true,
  .cells [.str [121,101,97,114,108,121], .str [97,110,110,117,97,108,108,121]] 9 true,
  .cells [.str [98,105,100,97,105,108,121]] 9 true,
  .cells [.str [98,105,119,101,101,107,108,121]] 9 true,
  .cells [.str [98,105,109,111,110,116,104,108,121]] 9 true,
  .cells [.str [98,105,121,101,97,114,108,121], .str [98,105,97,110,110,117,97,108,108,121]] 9 true,
  .cells [.str [105,110]] 9 true,
  .cells [.str [111,110,32,116,104,101], .str [111,110]] 9 true,
  .cells [.str [111,110,108,121,32,116,104,101], .str [111,110,108,121]] 9 true,
  .cells [.str [117,110,116,105,108], .str [116,105,108,108]] 9 true,
  .cells [.str [102,111,114]] 9 true,
  .cells [.str [97,110,100]] 9 true,
  .cells [.str [108,97,115,116], .str [116,111,32,108,97,115,116]] 9 true,
  .cells [.str [116,105,109,101], .str [116,105,109,101,115], .str [116,105,109,101,115]] 9 true,
  .cells [.str [106,97,110,117,97,114,121], .str [106,97,110]] 9 true,
  .cells [.str [102,101,98,114,117,97,114,121], .str [102,101,98]] 9 true,
  .cells [.str [109,97,114,99,104], .str [109,97,114]] 9 true,
  .cells [.str [97,112,114,105,108], .str [97,112,114]] 9 true,
  .cells [.str [109,97,121]] 9 true,
  .cells [.str [106,117,110,101], .str [106,117,110]] 9 true,
  .cells [.str [106,117,108,121], .str [106,117,108]] 9 true,
  .cells [.str [97,117,103,117,115,116], .str [97,117,103]] 9 true,
  .cells [.str [115,101,112,116,101,109,98,101,114], .str [115,101,112]] 9 true,
  .cells [.str [111,99,116,111,98,101,114], .str [111,99,116]] 9 true,
  .cells [.str [110,111,118,101,109,98,101,114], .str [110,111,118]] 9 true,
  .cells [.str [100,101,99,101,109,98,101,114], .str [100,101,99]] 9 true,
  .cells [.str [109,111,110,100,97,121], .str [109,111,110,100,97,121,115], .str [109,111,110]] 9 true,
  .cells [.str [116,117,101,115,100,97,121], .str [116,117,101,115,100,97,121,115], .str [116,117,101]] 9 true,
  .cells [.str [119,101,100,110,101,115,100,97,121], .str [119,101,100,110,101,115,100,97,121,115], .str [119,101,100]] 9 true,
  .cells [.str [116,104,117,114,115,100,97,121], .str [116,104,117,114,115,100,97,121,115], .str [116,104,117]] 9 true,
  .cells [.str [102,114,105,100,97,121], .str [102,114,105,100,97,121,115], .str [102,114,105]] 9 true,
  .cells [.str [115,97,116,117,114,100,97,121], .str [115,97,116,117,114,100,97,121,115], .str [115,97,116]] 9 true,
  .cells [.str [115,117,110,100,97,121], .str [115,117,110,100,97,121,115], .str [115,117,110]] 9 true]⟩

theorem runenglish : imgRun (EM []) gl 43 40000 englishNames englishImg = true := by kernel_rfl
theorem knowenglish : KnownI Tryz.prog gl 43 englishImg := knows [] (fun _ h => by cases h) runenglish

end Go.Proofs.YtjhnpcnamclfbaaGreatDoor

/-! Runs of closed calls, by the kernel. -/
namespace Go.Proofs.YtjhnpcnamclfbaaGreatDoor
open Go Go.Eng

set_option maxRecDepth 100000
def germanNames : List Nat := [1002, 1001, 1005, 1008, 1011, 1012, 1013, 1014, 1017, 1018, 1019, 1020, 1023, 1024, 1025, 1026, 1029, 1032, 1035, 1038, 1041, 1044, 1047, 1050, 1053, 1054, 1055, 1056, 1057, 1058, 1059, 1060, 1061, 1062, 1063, 1064, 1067, 1068, 1069, 1070, 1071, 1072, 1073]
noncomputable def germanImg : Img := ⟨.ptr 1000 0, [
  .cells [.str [100,101], .int .i64 0, .int .i64 2, .map 1001] 47 true,
  .map [(.agg [.int .i64 0, .int .i64 0], .slice 1002 0 4 4 1, 0), (.agg [.int .i64 1, .int .i64 0], .slice 1003 0 3 3 1, 1), (.agg [.int .i64 2, .int .i64 0], .slice 1004 0 4 4 1, 2), (.agg [.int .i64 2, .int .i64 1], .slice 1005 0 3 3 1, 3), (.agg [.int .i64 2, .int .i64 2], .slice 1006 0 4 4 1, 4), (.agg [.int .i64 2, .int .i64 3], .slice 1007 0 4 4 1, 5), (.agg [.int .i64 3, .int .i64 0], .slice 1008 0 1 1 1, 6), (.agg [.int .i64 3, .int .i64 1], .slice 1009 0 1 1 1, 7), (.agg [.int .i64 3, .int .i64 2], .slice 1010 0 1 1 1, 8), (.agg [.int .i64 3, .int .i64 3], .slice 1011 0 1 1 1, 9), (.agg [.int .i64 4, .int .i64 0], .slice 1012 0 1 1 1, 10), (.agg [.int .i64 4, .int .i64 1], .slice 1013 0 1 1 1, 11), (.agg [.int .i64 4, .int .i64 2], .slice 1014 0 1 1 1, 12), (.agg [.int .i64 4, .int .i64 3], .slice 1015 0 1 1 1, 13), (.agg [.int .i64 5, .int .i64 0], .slice 1016 0 2 2 1, 14), (.agg [.int .i64 6, .int .i64 0], .slice 1017 0 2 2 1, 15), (.agg [.int .i64 7, .int .i64 0], .slice 1018 0 2 2 1, 16), (.agg [.int .i64 8, .int .i64 0], .slice 1019 0 2 2 1, 17), (.agg [.int .i64 9, .int .i64 0], .slice 1020 0 1 1 1, 18), (.agg [.int .i64 10, .int .i64 0], .slice 1021 0 1 1 1, 19), (.agg [.int .i64 11, .int .i64 0], .slice 1022 0 3 3 1, 20), (.agg [.int .i64 12, .int .i64 0], .slice 1023 0 3 3 1, 21), (.agg [.int .i64 13, .int .i64 0], .slice 1024 0 2 2 1, 22), (.agg [.int .i64 13, .int .i64 1], .slice 1025 0 1 1 1, 23), (.agg [.int .i64 13, .int .i64 2], .slice 1026 0 1 1 1, 24), (.agg [.int .i64 13, .int .i64 3], .slice 1027 0 1 1 1, 25), (.agg [.int .i64 13, .int .i64 4], .slice 1028 0 1 1 1, 26), (.agg [.int .i64 13, .int .i64 5], .slice 1029 0 1 1 1, 27), (.agg [.int .i64 13, .int .i64 6], .slice 1030 0 1 1 1, 28), (.agg [.int .i64 13, .int .i64 7], .slice 1031 0 1 1 1, 29), (.agg [.int .i64 13, .int .i64 8], .slice 1032 0 1 1 1, 30), (.agg [.int .i64 13, .int .i64 9], .slice 1033 0 1 1 1, 31), (.agg [.int .i64 13, .int .i64 10], .slice 1034 0 1 1 1, 32), (.agg [.int .i64 13, .int .i64 11], .slice 1035 0 1 1 1, 33), (.agg [.int .i64 14, .int .i64 0], .slice 1036 0 2 2 1, 34), (.agg [.int .i64 14, .int .i64 1], .slice 1037 0 2 2 1, 35), (.agg [.int .i64 14, .int .i64 2], .slice 1038 0 2 2 1, 36), (.agg [.int .i64 14, .int .i64 3], .slice 1039 0 2 2 1, 37), (.agg [.int .i64 14, .int .i64 4], .slice 1040 0 2 2 1, 38), (.agg [.int .i64 14, .int .i64 5], .slice 1041 0 3 3 1, 39), (.agg [.int .i64 14, .int .i64 6], .slice 1042 0 2 2 1, 40)] 41,
  .cells [.str [97,108,108,101], .str [106,101,100,101,110], .str [106,101,100,101], .str [106,101,100,101,115]] 9 true,
  .cells [.str [106,101,100,101,110,32,122,119,101,105,116,101,110], .str [106,101,100,101,32,122,119,101,105,116,101], .str [106,101,100,101,115,32,122,119,101,105,116,101]] 9 true,
  .cells [.str [116,97,103], .str [116,97,103,101], .str [116,97,103,101], .str [116,97,103,101,110]] 9 true,
  .cells [.str [119,111,99,104,101], .str [119,111,99,104,101,110], .str [119,111,99,104,101,110]] 9 true,
  .cells [.str [109,111,110,97,116], .str [109,111,110,97,116,101], .str [109,111,110,97,116,101], .str [109,111,110,97,116,101,110]] 9 true,
  .cells [.str [106,97,104,114], .str [106,97,104,114,101], .str [106,97,104,114,101], .str [106,97,104,114,101,110]] 9 true,
  .cells [.str [116,195,164,103,108,105,99,104]] 9 true,
  .cells [.str [119,195,182,99,104,101,110,116,108,105,99,104]] 9 true,
  .cells [.str [109,111,110,97,116,108,105,99,104]] 9 true,
  .cells [.str [106,195,164,104,114,108,105,99,104]] 9 true,
  .cells [.str [122,119,101,105,116,195,164,103,108,105,99,104]] 9 true,
  .cells [.str [122,119,101,105,119,195,182,99,104,101,110,116,108,105,99,104]] 9 true,
  .cells [.str [122,119,101,105,109,111,110,97,116,108,105,99,104]] 9 true,
  .cells [.str [122,119,101,105,106,195,164,104,114,108,105,99,104]] 9 true,
  .cells [.str [105,109], .str [105,110]] 9 true,
  .cells [.str [97,109], .str [97,110]] 9 true,
  .cells [.str [110,117,114,32,97,109], .str [110,117,114]] 9 true,
  .cells [.str [98,105,115], .str [98,105,115,32,122,117,109]] 9 true,
  .cells [.str [105,110,115,103,101,115,97,109,116]] 9 true,
  .cells [.str [117,110,100]] 9 true,
  .cells [.str [108,101,116,122,116,101,110], .str [108,101,116,122,116,101,114], .str [118,111,109,32,101,110,100,101]] 9 true,
  .cells [.str [109,97,108], .str [109,97,108], .str [109,97,108]] 9 true,
  .cells [.str [106,97,110,117,97,114], .str [106,195,164,110,110,101,114]] 9 true,
  .cells [.str [102,101,98,114,117,97,114]] 9 true,
  .cells [.str [109,195,164,114,122]] 9 true,
  .cells [.str [97,112,114,105,108]] 9 true,
  .cells [.str [109,97,105]] 9 true,
  .cells [.str [106,117,110,105]] 9 true,
  .cells [.str [106,117,108,105]] 9 true,
  .cells [.str [97,117,103,117,115,116]] 9 true,
  .cells [.str [115,101,112,116,101,109,98,101,114]] 9 true,
  .cells [.str [111,107,116,111,98,101,114]] 9 true,
  .cells [.str [110,111,118,101,109,98,101,114]] 9 true,
  .cells [.str [100,101,122,101,109,98,101,114]] 9 true,
  .cells [.str [109,111,110,116,97,103], .str [109,111,110,116,97,103,115]] 9 true,
  .cells [.str [100,105,101,110,115,116,97,103], .str [100,105,101,110,115,116,97,103,115]] 9 true,
  .cells [.str [109,105,116,116,119,111,99,104], .str [109,105,116,116,119,111,99,104,115]] 9 true,
  .cells [.str [100,111,110,110,101,114,115,116,97,103], .str [100,111,110,110,101,114,115,116,97,103,115]] 9 true,
  .cells [.str [102,114,101,105,116,97,103], .str [102,114,101,105,116,97,103,115]] 9 true,
  .cells [.str [115,97,109,115,116,97,103], .str [115,97,109,115,116,97,103,115], .str [115,111,110,110,97,98,101,110,100]] 9 true,
  .cells [.str [115,111,110,110,116,97,103], .str [115,111,110,110,116,97,103,115]] 9 true]⟩

theorem rungerman : imgRun (EM []) gl 44 40000 germanNames germanImg = true := by kernel_rfl
theorem knowgerman : KnownI Tryz.prog gl 44 germanImg := knows [] (fun _ h => by cases h) rungerman

end Go.Proofs.YtjhnpcnamclfbaaGreatDoor

/-! Runs of closed calls, by the kernel. -/
namespace Go.Proofs.YtjhnpcnamclfbaaGreatDoor
open Go Go.Eng

set_option maxRecDepth 100000
def frenchNames : List Nat := [1002, 1001, 1005, 1008, 1011, 1012, 1013, 1014, 1017, 1018, 1019, 1020, 1023, 1024, 1025, 1026, 1029, 1032, 1035, 1038, 1041, 1044, 1047, 1050, 1053, 1054, 1055, 1056, 1057, 1058, 1059, 1060, 1061, 1062, 1063, 1064, 1067, 1068, 1069, 1070, 1071, 1072, 1073]
noncomputable def frenchImg : Img := ⟨.ptr 1000 0, [
  .cells [.str [102,114], .int .i64 1, .int .i64 1, .map 1001] 47 true,
  .map [(.agg [.int .i64 0, .int .i64 0], .slice 1002 0 3 3 1, 0), (.agg [.int .i64 1, .int .i64 0], .slice 1003 0 2 2 1, 1), (.agg [.int .i64 2, .int .i64 0], .slice 1004 0 3 3 1, 2), (.agg [.int .i64 2, .int .i64 1], .slice 1005 0 3 3 1, 3), (.agg [.int .i64 2, .int .i64 2], .slice 1006 0 3 3 1, 4), (.agg [.int .i64 2, .int .i64 3], .slice 1007 0 5 5 1, 5), (.agg [.int .i64 3, .int .i64 0], .slice 1008 0 1 1 1, 6), (.agg [.int .i64 3, .int .i64 1], .slice 1009 0 1 1 1, 7), (.agg [.int .i64 3, .int .i64 2], .slice 1010 0 1 1 1, 8), (.agg [.int .i64 3, .int .i64 3], .slice 1011 0 1 1 1, 9), (.agg [.int .i64 4, .int .i64 0], .slice 1012 0 1 1 1, 10), (.agg [.int .i64 4, .int .i64 1], .slice 1013 0 1 1 1, 11), (.agg [.int .i64 4, .int .i64 2], .slice 1014 0 1 1 1, 12), (.agg [.int .i64 4, .int .i64 3], .slice 1015 0 1 1 1, 13), (.agg [.int .i64 5, .int .i64 0], .slice 1016 0 1 1 1, 14), (.agg [.int .i64 6, .int .i64 0], .slice 1017 0 2 2 1, 15), (.agg [.int .i64 7, .int .i64 0], .slice 1018 0 2 2 1, 16), (.agg [.int .i64 8, .int .i64 0], .slice 1019 0 3 3 1, 17), (.agg [.int .i64 9, .int .i64 0], .slice 1020 0 1 1 1, 18), (.agg [.int .i64 10, .int .i64 0], .slice 1021 0 1 1 1, 19), (.agg [.int .i64 11, .int .i64 0], .slice 1022 0 3 3 1, 20), (.agg [.int .i64 12, .int .i64 0], .slice 1023 0 3 3 1, 21), (.agg [.int .i64 13, .int .i64 0], .slice 1024 0 1 1 1, 22), (.agg [.int .i64 13, .int .i64 1], .slice 1025 0 1 1 1, 23), (.agg [.int .i64 13, .int .i64 2], .slice 1026 0 1 1 1, 24), (.agg [.int .i64 13, .int .i64 3], .slice 1027 0 1 1 1, 25), (.agg [.int .i64 13, .int .i64 4], .slice 1028 0 1 1 1, 26), (.agg [.int .i64 13, .int .i64 5], .slice 1029 0 1 1 1, 27), (.agg [.int .i64 13, .int .i64 6], .slice 1030 0 1 1 1, 28), (.agg [.int .i64 13, .int .i64 7], .slice 1031 0 1 1 1, 29), (.agg [.int .i64 13, .int .i64 8], .slice 1032 0 1 1 1, 30), (.agg [.int .i64 13, .int .i64 9], .slice 1033 0 1 1 1, 31), (.agg [.int .i64 13, .int .i64 10], .slice 1034 0 1 1 1, 32), (.agg [.int .i64 13, .int .i64 11], .slice 1035 0 1 1 1, 33), (.agg [.int .i64 14, .int .i64 0], .slice 1036 0 2 2 1, 34), (.agg [.int .i64 14, .int .i64 1], .slice 1037 0 2 2 1, 35), (.agg [.int .i64 14, .int .i64 2], .slice 1038 0 2 2 1, 36), (.agg [.int .i64 14, .int .i64 3], .slice 1039 0 2 2 1, 37), (.agg [.int .i64 14, .int .i64 4], .slice 1040 0 2 2 1, 38), (.agg [.int .i64 14, .int .i64 5], .slice 1041 0 2 2 1, 39), (.agg [.int .i64 14, .int .i64 6], .slice 1042 0 2 2 1, 40)] 41,
  .cells [.str [116,111,117,115,32,108,101,115], .str [116,111,117,116,101,115,32,108,101,115], .str [99,104,97,113,117,101]] 9 true,
  .cells [.str [117,110,32,115,117,114,32,100,101,117,120], .str [117,110,101,32,115,117,114,32,100,101,117,120]] 9 true,
  .cells [.str [106,111,117,114], .str [106,111,117,114,115], .str [106,111,117,114,115]] 9 true,
  .cells [.str [115,101,109,97,105,110,101], .str [115,101,109,97,105,110,101,115], .str [115,101,109,97,105,110,101,115]] 9 true,
  .cells [.str [109,111,105,115], .str [109,111,105,115], .str [109,111,105,115]] 9 true,
  .cells [.str [97,110], .str [97,110,115], .str [97,110,115], .str [97,110,110,195,169,101], .str [97,110,110,195,169,101,115]] 9 true,
  .cells [.str [113,117,111,116,105,100,105,101,110,110,101,109,101,110,116]] 9 true,
  .cells [.str [104,101,98,100,111,109,97,100,97,105,114,101,109,101,110,116]] 9 true,
  .cells [.str [109,101,110,115,117,101,108,108,101,109,101,110,116]] 9 true,
  .cells [.str [97,110,110,117,101,108,108,101,109,101,110,116]] 9 true,
  .cells [.str [98,105,113,117,111,116,105,100,105,101,110,110,101,109,101,110,116]] 9 true,
  .cells [.str [98,105,104,101,98,100,111,109,97,100,97,105,114,101,109,101,110,116]] 9 true,
  .cells [.str [98,105,109,101,110,115,117,101,108,108,101,109,101,110,116]] 9 true,
  .cells [.str [98,105,97,110,110,117,101,108,108,101,109,101,110,116]] 9 true,
  .cells [.str [101,110]] 9 true,
  .cells [.str [108,101], .str [108,101,115]] 9 true,
  .cells [.str [115,101,117,108,101,109,101,110,116,32,108,101], .str [115,101,117,108,101,109,101,110,116]] 9 true,
  .cells [.str [106,117,115,113,117,39,97,117], .str [106,117,115,113,117,39,101,110], .str [106,117,115,113,117,101]] 9 true,
  .cells [.str [112,101,110,100,97,110,116]] 9 true,
  .cells [.str [101,116]] 9 true,
  .cells [.str [100,101,114,110,105,101,114], .str [100,101,114,110,105,195,168,114,101], .str [97,118,97,110,116,32,108,97,32,102,105,110]] 9 true,
  .cells [.str [102,111,105,115], .str [102,111,105,115], .str [102,111,105,115]] 9 true,
  .cells [.str [106,97,110,118,105,101,114]] 9 true,
  .cells [.str [102,195,169,118,114,105,101,114]] 9 true,
  .cells [.str [109,97,114,115]] 9 true,
  .cells [.str [97,118,114,105,108]] 9 true,
  .cells [.str [109,97,105]] 9 true,
  .cells [.str [106,117,105,110]] 9 true,
  .cells [.str [106,117,105,108,108,101,116]] 9 true,
  .cells [.str [97,111,195,187,116]] 9 true,
  .cells [.str [115,101,112,116,101,109,98,114,101]] 9 true,
  .cells [.str [111,99,116,111,98,114,101]] 9 true,
  .cells [.str [110,111,118,101,109,98,114,101]] 9 true,
  .cells [.str [100,195,169,99,101,109,98,114,101]] 9 true,
  .cells [.str [108,117,110,100,105], .str [108,117,110,100,105,115]] 9 true,
  .cells [.str [109,97,114,100,105], .str [109,97,114,100,105,115]] 9 true,
  .cells [.str [109,101,114,99,114,101,100,105], .str [109,101,114,99,114,101,100,105,115]] 9 true,
  .cells [.str [106,101,117,100,105], .str [106,101,117,100,105,115]] 9 true,
  .cells [.str [118,101,110,100,114,101,100,105], .str [118,101,110,100,114,101,100,105,115]] 9 true,
  .cells [.str [115,97,109,101,100,105], .str [115,97,109,101,100,105,115]] 9 true,
  .cells [.str [100,105,109,97,110,99,104,101], .str [100,105,109,97,110,99,104,101,115]] 9 true]⟩

theorem runfrench : imgRun (EM []) gl 45 40000 frenchNames frenchImg = true := by kernel_rfl
theorem knowfrench : KnownI Tryz.prog gl 45 frenchImg := knows [] (fun _ h => by cases h) runfrench

end Go.Proofs.YtjhnpcnamclfbaaGreatDoor

/-! Runs of closed calls, by the kernel. -/
namespace Go.Proofs.YtjhnpcnamclfbaaGreatDoor
open Go Go.Eng

set_option maxRecDepth 100000
def polishNames : List Nat := [1002, 1001, 1005, 1008, 1011, 1012, 1013, 1014, 1017, 1018, 1019, 1020, 1023, 1024, 1025, 1026, 1029, 1032, 1035, 1038, 1041, 1044, 1047, 1050, 1053, 1054, 1055, 1056, 1057, 1058, 1059, 1060, 1061, 1062, 1063, 1064, 1067, 1068, 1069, 1070, 1071, 1072, 1073]
noncomputable def polishImg : Img := ⟨.ptr 1000 0, [
  .cells [.str [112,108], .int .i64 2, .int .i64 2, .map 1001] 47 true,
  .map [(.agg [.int .i64 0, .int .i64 0], .slice 1002 0 5 5 1, 0), (.agg [.int .i64 1, .int .i64 0], .slice 1003 0 3 3 1, 1), (.agg [.int .i64 2, .int .i64 0], .slice 1004 0 3 3 1, 2), (.agg [.int .i64 2, .int .i64 1], .slice 1005 0 3 3 1, 3), (.agg [.int .i64 2, .int .i64 2], .slice 1006 0 3 3 1, 4), (.agg [.int .i64 2, .int .i64 3], .slice 1007 0 3 3 1, 5), (.agg [.int .i64 3, .int .i64 0], .slice 1008 0 1 1 1, 6), (.agg [.int .i64 3, .int .i64 1], .slice 1009 0 1 1 1, 7), (.agg [.int .i64 3, .int .i64 2], .slice 1010 0 1 1 1, 8), (.agg [.int .i64 3, .int .i64 3], .slice 1011 0 1 1 1, 9), (.agg [.int .i64 4, .int .i64 0], .slice 1012 0 1 1 1, 10), (.agg [.int .i64 4, .int .i64 1], .slice 1013 0 1 1 1, 11), (.agg [.int .i64 4, .int .i64 2], .slice 1014 0 1 1 1, 12), (.agg [.int .i64 4, .int .i64 3], .slice 1015 0 1 1 1, 13), (.agg [.int .i64 5, .int .i64 0], .slice 1016 0 1 1 1, 14), (.agg [.int .i64 6, .int .i64 0], .slice 1017 0 2 2 1, 15), (.agg [.int .i64 7, .int .i64 0], .slice 1018 0 1 1 1, 16), (.agg [.int .i64 8, .int .i64 0], .slice 1019 0 1 1 1, 17), (.agg [.int .i64 9, .int .i64 0], .slice 1020 0 1 1 1, 18), (.agg [.int .i64 10, .int .i64 0], .slice 1021 0 2 2 1, 19), (.agg [.int .i64 11, .int .i64 0], .slice 1022 0 3 3 1, 20), (.agg [.int .i64 12, .int .i64 0], .slice 1023 0 3 3 1, 21), (.agg [.int .i64 13, .int .i64 0], .slice 1024 0 3 3 1, 22), (.agg [.int .i64 13, .int .i64 1], .slice 1025 0 3 3 1, 23), (.agg [.int .i64 13, .int .i64 2], .slice 1026 0 3 3 1, 24), (.agg [.int .i64 13, .int .i64 3], .slice 1027 0 3 3 1, 25), (.agg [.int .i64 13, .int .i64 4], .slice 1028 0 3 3 1, 26), (.agg [.int .i64 13, .int .i64 5], .slice 1029 0 3 3 1, 27), (.agg [.int .i64 13, .int .i64 6], .slice 1030 0 3 3 1, 28), (.agg [.int .i64 13, .int .i64 7], .slice 1031 0 3 3 1, 29), (.agg [.int .i64 13, .int .i64 8], .slice 1032 0 3 3 1, 30), (.agg [.int .i64 13, .int .i64 9], .slice 1033 0 3 3 1, 31), (.agg [.int .i64 13, .int .i64 10], .slice 1034 0 3 3 1, 32), (.agg [.int .i64 13, .int .i64 11], .slice 1035 0 3 3 1, 33), (.agg [.int .i64 14, .int .i64 0], .slice 1036 0 2 2 1, 34), (.agg [.int .i64 14, .int .i64 1], .slice 1037 0 2 2 1, 35), (.agg [.int .i64 14, .int .i64 2], .slice 1038 0 3 3 1, 36), (.agg [.int .i64 14, .int .i64 3], .slice 1039 0 2 2 1, 37), (.agg [.int .i64 14, .int .i64 4], .slice 1040 0 2 2 1, 38), (.agg [.int .i64 14, .int .i64 5], .slice 1041 0 3 3 1, 39), (.agg [.int .i64 14, .int .i64 6], .slice 1042 0 3 3 1, 40)] 41,
  .cells [.str [99,111], .str [107,97,197,188,100,121], .str [107,97,197,188,100,97], .str [107,97,197,188,100,101], .str [107,97,197,188,100,196,133]] 9 true,
  .cells [.str [99,111,32,100,114,117,103,105], .str [99,111,32,100,114,117,103,97], .str [99,111,32,100,114,117,103,196,133]] 9 true,
  .cells [.str [100,122,105,101,197,132], .str [100,110,105], .str [100,110,105]] 9 true,
  .cells [.str [116,121,100,122,105,101,197,132], .str [116,121,103,111,100,110,105,101], .str [116,121,103,111,100,110,105]] 9 true,
  .cells [.str [109,105,101,115,105,196,133,99], .str [109,105,101,115,105,196,133,99,101], .str [109,105,101,115,105,196,153,99,121]] 9 true,
  .cells [.str [114,111,107], .str [108,97,116,97], .str [108,97,116]] 9 true,
  .cells [.str [99,111,100,122,105,101,110,110,105,101]] 9 true,
  .cells [.str [99,111,116,121,103,111,100,110,105,111,119,111]] 9 true,
  .cells [.str [99,111,109,105,101,115,105,196,153,99,122,110,105,101]] 9 true,
  .cells [.str [99,111,114,111,99,122,110,105,101]] 9 true,
  .cells [.str [100,119,117,100,110,105,111,119,111]] 9 true,
  .cells [.str [100,119,117,116,121,103,111,100,110,105,111,119,111]] 9 true,
  .cells [.str [100,119,117,109,105,101,115,105,196,153,99,122,110,105,101]] 9 true,
  .cells [.str [100,119,117,108,101,116,110,105,111]] 9 true,
  .cells [.str [119]] 9 true,
  .cells [.str [100,110,105,97], .str [119,101]] 9 true,
  .cells [.str [116,121,108,107,111]] 9 true,
  .cells [.str [100,111]] 9 true,
  .cells [.str [112,114,122,101,122]] 9 true,
  .cells [.str [105], .str [111,114,97,122]] 9 true,
  .cells [.str [111,115,116,97,116,110,105], .str [111,115,116,97,116,110,105,97], .str [111,100,32,107,111,197,132,99,97]] 9 true,
  .cells [.str [114,97,122], .str [114,97,122,121], .str [114,97,122,121]] 9 true,
  .cells [.str [115,116,121,99,122,110,105,117], .str [115,116,121,99,122,101,197,132], .str [115,116,121,99,122,110,105,97]] 9 true,
  .cells [.str [108,117,116,121,109], .str [108,117,116,121], .str [108,117,116,101,103,111]] 9 true,
  .cells [.str [109,97,114,99,117], .str [109,97,114,122,101,99], .str [109,97,114,99,97]] 9 true,
  .cells [.str [107,119,105,101,116,110,105,117], .str [107,119,105,101,99,105,101,197,132], .str [107,119,105,101,116,110,105,97]] 9 true,
  .cells [.str [109,97,106,117], .str [109,97,106], .str [109,97,106,97]] 9 true,
  .cells [.str [99,122,101,114,119,99,117], .str [99,122,101,114,119,105,101,99], .str [99,122,101,114,119,99,97]] 9 true,
  .cells [.str [108,105,112,99,117], .str [108,105,112,105,101,99], .str [108,105,112,99,97]] 9 true,
  .cells [.str [115,105,101,114,112,110,105,117], .str [115,105,101,114,112,105,101,197,132], .str [115,105,101,114,112,110,105,97]] 9 true,
  .cells [.str [119,114,122,101,197,155,110,105,117], .str [119,114,122,101,115,105,101,197,132], .str [119,114,122,101,197,155,110,105,97]] 9 true,
  .cells [.str [112,97,197,186,100,122,105,101,114,110,105,107,117], .str [112,97,197,186,100,122,105,101,114,110,105,107], .str [112,97,197,186,100,122,105,101,114,110,105,107,97]] 9 true,
  .cells [.str [108,105,115,116,111,112,97,100,122,105,101], .str [108,105,115,116,111,112,97,100], .str [108,105,115,116,111,112,97,100,97]] 9 true,
  .cells [.str [103,114,117,100,110,105,117], .str [103,114,117,100,122,105,101,197,132], .str [103,114,117,100,110,105,97]] 9 true,
  .cells [.str [112,111,110,105,101,100,122,105,97,197,130,101,107], .str [112,111,110,105,101,100,122,105,97,197,130,107,105]] 9 true,
  .cells [.str [119,116,111,114,101,107], .str [119,116,111,114,107,105]] 9 true,
  .cells [.str [197,155,114,111,100,97], .str [197,155,114,111,100,196,153], .str [197,155,114,111,100,121]] 9 true,
  .cells [.str [99,122,119,97,114,116,101,107], .str [99,122,119,97,114,116,107,105]] 9 true,
  .cells [.str [112,105,196,133,116,101,107], .str [112,105,196,133,116,107,105]] 9 true,
  .cells [.str [115,111,98,111,116,97], .str [115,111,98,111,116,196,153], .str [115,111,98,111,116,121]] 9 true,
  .cells [.str [110,105,101,100,122,105,101,108,97], .str [110,105,101,100,122,105,101,108,196,153], .str [110,105,101,100,122,105,101,108,101]] 9 true]⟩

theorem runpolish : imgRun (EM []) gl 46 40000 polishNames polishImg = true := by kernel_rfl
theorem knowpolish : KnownI Tryz.prog gl 46 polishImg := knows [] (fun _ h => by cases h) runpolish

end Go.Proofs.YtjhnpcnamclfbaaGreatDoor

/-! The words' tables in memory; numerals; what lies ahead of a year, months by the document. -/
namespace Go.Proofs.YtjhnpcnamclfbaaGreatDoor
open Go Go.Eng Go.RowKit
noncomputable section
set_option maxRecDepth 100000

/-! ### Tables -/
def tabI (k : Nat) : Img := pick englishImg [englishImg, germanImg, frenchImg, polishImg] k
def tabX (k : Nat) : List Blk := toX (tabI k)
theorem tab_okB : allB (fun k => (tabI k).bs.all okB && Nat.blt 0 (len (tabI k).bs)) k4 = true := by kernel_rfl
theorem tab_fit : allB (fun k => fitX gl (tabX k)) k4 = true := by kernel_rfl
theorem tab_ptr : ∀ k, k < 4 → (tabI k).v = .ptr (gN + 0) 0 := by
  intro k hk
  match k, hk with
  | 0, _ | 1, _ | 2, _ | 3, _ => rfl
theorem tabX_len (k : Nat) : (tabX k).length = (tabI k).bs.length := List.length_map _
/-- A language's table lies there, and the errors' variables do. -/
def tabW (k : Nat) (ρt : Rho) (w : World) : Prop := HasX (tabX k) ρt w ∧ errV w
/-- Where it lies. -/
def PtrX (k : Nat) (ρt : Rho) (p : Value) : Prop := ∃ L : Eng.Loc, ρt xN = some L ∧ p = .pointer (some ⟨L.blk, L.sh, none⟩) ∧ isX (tabX k).length xN = true
theorem tabW_hold {k : Nat} {ρt : Rho} {b : Nat → Prop} {w : World} (h : tabW k ρt w) (hb : ∀ i L, isX (tabX k).length i = true → ρt i = some L → b L.blk) (he : Hold errV b w) : Hold (tabW k ρt) b w :=
  ⟨h, fun w1 w2 h1 hK => ⟨(HasX.hold h.1 hb).keep w1 w2 h1.1 hK, he.keep w1 w2 h1.2 hK⟩⟩
theorem hasX_lt {bs : List Blk} {ρt : Rho} {w : World} (h : HasX bs ρt w) {i : Nat} {L : Eng.Loc} (hi : isX bs.length i = true) (hL : ρt i = some L) : L.blk < w.heap.size := by
  have hi := isX_iff.1 hi
  obtain ⟨b, hb⟩ : ∃ b, bs[i - xN]? = some b := ⟨_, List.getElem?_eq_getElem (by omega)⟩
  obtain ⟨L', ob, e1, e2, _⟩ := h _ b hb
  rw [show xN + (i - xN) = i by omega] at e1
  rw [e1] at hL; cases hL
  exact lt_of_get e2
theorem tabW_all (k : Nat) (ρt : Rho) (w : World) (h : tabW k ρt w) : Hold (tabW k ρt) (fun j => j < w.heap.size) w :=
  tabW_hold h (fun _ _ hi hL => hasX_lt h.1 hi hL) (errV_hold w h.2)
abbrev CT (k : Nat) (ρt : Rho) (f : FuncId) (va : Array Value) (u : Value) : Prop := CallsV Tryz.prog gl f va u (tabW k ρt)
def Et (k : Nat) (ρt : Rho) : Env := { E0 with V := tabW k ρt }
theorem envEt (k : Nat) (ρt : Rho) : EnvOK (Et k ρt) := ⟨envOK.ty, envOK.fns, envOK.mixed⟩
/-- A closed run over a table is a contract. -/
theorem CT.script {k : Nat} {ρt : Rho} (hk : k < 4) {σ : Nat → Value} {f : FuncId} {args : List AV} {n : Nat} {v : AV} {va : Array Value} {u : Value} {orows : List OR} {krows : List KR}
    (ho : ∀ m, ∀ r ∈ orows, RowOK ((Et k ρt).ask 9 orows (memoK gl krows)) 9 (withM σ m) r) (hkr : ∀ m, ∀ r ∈ krows, KRow Tryz.prog gl (withM σ m) r.f r.args r.img (tabW k ρt))
    (run : rowRunX ((Et k ρt).askH 9 orows (memoKH gl krows)) gl (tabX k) f args n v = true) (ha : ∀ m ρ, (∀ i, isX (tabX k).length i = true → ρ i = ρt i) → VRs ρ (withM σ m) args va.toList) (hu : ∀ m, VR (fun _ => none) (withM σ m) v u) (ht : tellsV v = true) : CT k ρt f va u :=
  CallsV.scriptX (E := Et k ρt) (ρt := ρt) (envEt k ρt) 9 glOK (allB_spec tab_fit k (mem_k4 hk)) ho hkr (rowRunX_H run) ha hu ht (fun _ h => h.1) (fun w h => tabW_all k ρt w h)
theorem PtrX.vr {k : Nat} {ρt ρ : Rho} {σ : Nat → Value} {p : Value} (h : PtrX k ρt p) (hρ : ∀ i, isX (tabX k).length i = true → ρ i = ρt i) : VR ρ σ (.ptr xN 0) p := by
  obtain ⟨L, hL, e, hx⟩ := h
  exact ⟨L, by rw [hρ _ hx]; exact hL, e⟩

/-! ### Numerals -/
theorem c_itoaE (n : Int) (h0 : -9223372036854775808 ≤ n) (h1 : n ≤ 9223372036854775807) : CE fItoa #[.int .i64 n] (strV (Lib.itoa n)) := by
  intro w _ hv
  refine (Tryz.strconv_Itoa n h0 h1 w hv.1).mono ?_
  rintro e w' ⟨rfl, k, os, rfl⟩
  exact ⟨rfl, Lib.below_grow _ w (Nat.le_refl _) k os⟩
/-- Atoi at any string, as a row, whatever else stands. -/
theorem kr_atoiV {V : World → Prop} (i : ∀ w, V w → errV w) {σ : Nat → Value} {m : Int} (hm : σ kM = .int .i64 m) {a b : AV} {l : List UInt8} (ha : tellsV a = true) (hg : plainG a = true) (hl : l.length ≤ 1000000) (h1 : VR (fun _ => none) σ a (strV l)) (hp : plainA b = true) (h2 : VR (fun _ => none) σ b (.int .i64 (atoiN l))) :
    KRow Tryz.prog gl σ fAtoi [a] ⟨.tuple [b, errA (atoiB l)], []⟩ V := by
  have hgs : [a].all plainG = true := by rw [List.all_cons, hg]; rfl
  have hts : [a].all tellsV = true := by rw [List.all_cons, ha]; rfl
  cases hB : atoiB l with
  | true =>
    have e : Lib.atoiAll l = .ok (atoiN l) := by
      unfold atoiB at hB
      unfold atoiN
      split at hB
      · rename_i n e; rw [e]
      · cases hB
    exact KRow.ofC hm hts hgs (va := #[strV l]) ⟨_, _, rfl, h1, rfl⟩ (.inr ⟨_, rfl, by rw [List.all_cons, hp]; rfl⟩) (u := .tuple #[.int .i64 (atoiN l), .nilIface]) ⟨_, rfl, _, _, rfl, h2, _, _, rfl, rfl, rfl⟩ (CallsV.more (c_atoiL l _ hl e) i)
  | false =>
    refine KRow.err hgs hp (PRow.ofV glOK gl_bareM gl_has hm fun w va hva _ hV => ?_)
    have e : va = #[strV l] := Array.ext' (tellsVs_funs hts hva ⟨_, _, rfl, h1, rfl⟩)
    subst e
    refine (c_atoi_err l (by omega) hB w (i w hV)).mono fun e w' ⟨N, q1, q2⟩ => ⟨_, q1, ⟨_, rfl, _, _, rfl, h2, _, _, rfl, ⟨_, rfl, rfl⟩, rfl⟩, q2⟩

def sgNu (l : List UInt8) : Nat → Value
  | 0 => strV l
  | 1 => .int .i64 (atoiN l)
  | 2 => strV (Lib.itoa (atoiN l))
  | _ => .nilIface
def krNu (a : Bool) : List KR := [⟨fAtoi, [.sym 0], ⟨.tuple [.sym 1, errA a], []⟩⟩, ⟨fItoa, [.sym 1], ⟨.sym 2, []⟩⟩]
def orNu (b : Bool) : List OR := [⟨11, [.sym 2, .sym 0], .bool b⟩]
theorem runNu : ∀ a b : Bool, rowRunG (Ee.askM 9 (orNu b) [] (memoKH gl (krNu a))) gl fNumber [.sym 0] 300 (.tuple [.sym 1, .bool (a && b)]) = true := by
  intro a b
  cases a <;> cases b <;> kernel_rfl
/-- Digits, no nought ahead: any string. -/
def isNum (l : List UInt8) : Bool := atoiB l && decide (Lib.itoa (atoiN l) = l)
theorem c_number (l : List UInt8) (hl : l.length ≤ 1000000) : CE fNumber #[strV l] (.tuple #[.int .i64 (atoiN l), .bool (isNum l)]) := by
  have hb := atoiN_bounds l
  refine CallsV.scriptM (E := Ee) envEe rfl (σ := sgNu l) (orows := orNu (decide (Lib.itoa (atoiN l) = l))) (mrows := []) (krows := krNu (atoiB l)) (fun m r hr => ?_) (fun m r hr => by cases hr) (fun m r hr => ?_) (runNu _ _) (fun m => ⟨_, _, rfl, ⟨rfl, rfl⟩, rfl⟩) (fun m => ⟨_, rfl, _, _, rfl, ⟨rfl, rfl⟩, _, _, rfl, rfl, rfl⟩) rfl errV_hold
  · simp only [orNu, List.mem_cons, List.mem_nil_iff, or_false] at hr
    subst hr
    refine RowOK.seq (p := nats (Lib.itoa (atoiN l))) (q := nats l) rfl rfl (.inl ⟨rfl, ?_⟩)
    rw [decide_eq_decide]
    exact nats_iff.symm
  · simp only [krNu, List.mem_cons, List.mem_nil_iff, or_false] at hr
    rcases hr with rfl | rfl
    · exact kr_atoiV (fun _ h => h) (withM_kM _ _) rfl rfl hl ⟨rfl, rfl⟩ rfl ⟨rfl, rfl⟩
    · exact KRow.ofC (withM_kM _ _) rfl rfl (va := #[.int .i64 (atoiN l)]) ⟨_, _, rfl, ⟨rfl, rfl⟩, rfl⟩ (.inl rfl) (u := strV (Lib.itoa (atoiN l))) ⟨rfl, rfl⟩ (c_itoaE _ hb.1 hb.2)
theorem num_dec (y : Nat) (h : y < 9223372036854775808) : atoiN (Lib.decDigits y) = (y : Int) ∧ isNum (Lib.decDigits y) = true := by
  have h1 : atoiN (Lib.decDigits y) = (y : Int) := by unfold atoiN; rw [atoi_dec h]
  refine ⟨h1, ?_⟩
  unfold isNum
  rw [h1]
  unfold atoiB
  rw [atoi_dec h, Lib.itoa_nonneg]
  simp

/-! ### Years, by the document -/
def sgAh (y : Int) : Nat → Value
  | 0 => .int .i64 y
  | 1 => .int .i64 (y - 1)
  | 2 => .int .i64 (365 * (y - 1))
  | 3 => .int .i64 ((y - 1).tdiv 4)
  | 4 => .int .i64 (365 * (y - 1) + (y - 1).tdiv 4)
  | 5 => .int .i64 ((y - 1).tdiv 100)
  | 6 => .int .i64 (-1 * (y - 1).tdiv 100)
  | 7 => .int .i64 (365 * (y - 1) + (y - 1).tdiv 4 - (y - 1).tdiv 100)
  | 8 => .int .i64 ((y - 1).tdiv 400)
  | 9 => .int .i64 (aheadI y)
  | _ => .nilIface
def orAh : List OR := [⟨1, [.sym 0, .int .i64 1], .sym 1⟩, ⟨2, [.int .i64 365, .sym 1], .sym 2⟩, ⟨3, [.sym 1, .int .i64 4], .sym 3⟩, ⟨2, [.int .i64 1, .sym 3], .sym 3⟩, ⟨0, [.sym 2, .sym 3], .sym 4⟩, ⟨3, [.sym 1, .int .i64 100], .sym 5⟩, ⟨2, [.int .i64 (-1), .sym 5], .sym 6⟩, ⟨0, [.sym 4, .sym 6], .sym 7⟩, ⟨3, [.sym 1, .int .i64 400], .sym 8⟩, ⟨2, [.int .i64 1, .sym 8], .sym 8⟩, ⟨0, [.sym 7, .sym 8], .sym 9⟩]
theorem runAh : rowRun (E0.askH 9 orAh (memoKH glC [])) glC fAhead1 [.sym 0] 500 (.sym 9) = true := by kernel_rfl
theorem c_ahead1 {y : Int} (h1 : 1 ≤ y) (h2 : y ≤ 20000) : CV fAhead1 #[.int .i64 y] (.int .i64 (aheadI y)) := by
  have d4 : (y - 1).tdiv 4 = (y - 1) / 4 := Int.tdiv_eq_ediv_of_nonneg (by omega)
  have d100 : (y - 1).tdiv 100 = (y - 1) / 100 := Int.tdiv_eq_ediv_of_nonneg (by omega)
  have d400 : (y - 1).tdiv 400 = (y - 1) / 400 := Int.tdiv_eq_ediv_of_nonneg (by omega)
  refine CallsV.script (E := E0) envOK 9 (σ := sgAh y) (orows := orAh) (krows := []) (fun m r hr => ?_) (fun m r hr => by cases hr) (rowRun_H runAh) (fun m => ⟨_, _, rfl, ⟨rfl, rfl⟩, rfl⟩) (fun m => ⟨rfl, rfl⟩) rfl
  simp only [orAh, List.mem_cons, List.mem_nil_iff, or_false] at hr
  rcases hr with rfl | rfl | rfl | rfl | rfl | rfl | rfl | rfl | rfl | rfl | rfl
  · exact RowOK.sub64 (x := y) (y := 1) rfl rfl rfl rfl (by omega) (by omega)
  · exact RowOK.mul64 (x := 365) (y := y - 1) rfl rfl rfl rfl (by omega) (by omega)
  · exact RowOK.quo64 (x := y - 1) (y := 4) rfl rfl rfl (by decide) rfl (by omega) (by omega)
  · exact RowOK.mul64 (x := 1) (y := (y - 1).tdiv 4) rfl rfl rfl (by omega) (by omega) (by omega)
  · exact RowOK.add64 (x := 365 * (y - 1)) (y := (y - 1).tdiv 4) rfl rfl rfl rfl (by omega) (by omega)
  · exact RowOK.quo64 (x := y - 1) (y := 100) rfl rfl rfl (by decide) rfl (by omega) (by omega)
  · exact RowOK.mul64 (x := -1) (y := (y - 1).tdiv 100) rfl rfl rfl rfl (by omega) (by omega)
  · exact RowOK.add64 (x := 365 * (y - 1) + (y - 1).tdiv 4) (y := -1 * (y - 1).tdiv 100) rfl rfl rfl (by omega) (by omega) (by omega)
  · exact RowOK.quo64 (x := y - 1) (y := 400) rfl rfl rfl (by decide) rfl (by omega) (by omega)
  · exact RowOK.mul64 (x := 1) (y := (y - 1).tdiv 400) rfl rfl rfl (by omega) (by omega) (by omega)
  · exact RowOK.add64 (x := 365 * (y - 1) + (y - 1).tdiv 4 - (y - 1).tdiv 100) (y := (y - 1).tdiv 400) rfl rfl rfl (by unfold aheadI; omega) (by unfold aheadI; omega) (by unfold aheadI; omega)

/-! ### Months, by the document -/
def sgLe (y : Int) : Nat → Value
  | 0 => .int .i64 y
  | 1 => .int .i64 (y.tmod 400)
  | 2 => .int .i64 (y.tmod 4)
  | 3 => .int .i64 (y.tmod 100)
  | _ => .nilIface
def orLe (a b c : Bool) : List OR := [⟨4, [.sym 0, .int .i64 400], .sym 1⟩, ⟨11, [.sym 1, .int .i64 0], .bool a⟩, ⟨4, [.sym 0, .int .i64 4], .sym 2⟩, ⟨11, [.sym 2, .int .i64 0], .bool b⟩, ⟨4, [.sym 0, .int .i64 100], .sym 3⟩, ⟨12, [.sym 3, .int .i64 0], .bool c⟩]
theorem runLe : ∀ a b c : Bool, rowRun (E0.askH 9 (orLe a b c) (memoKH glC [])) glC fLeap1 [.sym 0] 200 (.bool (a || (b && c))) = true := by
  intro a b c
  cases a <;> cases b <;> cases c <;> kernel_rfl
theorem leap_same {y : Int} (h : 1 ≤ y) : (decide (y.tmod 400 = 0) || (decide (y.tmod 4 = 0) && !decide (y.tmod 100 = 0))) = leapB y := by
  unfold leapB
  have t4 : y.tmod 4 = y % 4 := Int.tmod_eq_emod_of_nonneg (by omega)
  have t100 : y.tmod 100 = y % 100 := Int.tmod_eq_emod_of_nonneg (by omega)
  have t400 : y.tmod 400 = y % 400 := Int.tmod_eq_emod_of_nonneg (by omega)
  rw [t4, t100, t400]
  by_cases h400 : y % 400 = 0
  · have h4 : y % 4 = 0 := by omega
    simp [h400, h4]
  · simp [h400]
theorem c_leap1 {y : Int} (h : 1 ≤ y) : CV fLeap1 #[.int .i64 y] (.bool (leapB y)) := by
  rw [← leap_same h]
  refine CallsV.script (E := E0) envOK 9 (σ := sgLe y) (orows := orLe (decide (y.tmod 400 = 0)) (decide (y.tmod 4 = 0)) (!decide (y.tmod 100 = 0))) (krows := []) (fun m r hr => ?_) (fun m r hr => by cases hr) (rowRun_H (runLe _ _ _)) (fun m => ⟨_, _, rfl, ⟨rfl, rfl⟩, rfl⟩) (fun m => rfl) rfl
  simp only [orLe, List.mem_cons, List.mem_nil_iff, or_false] at hr
  rcases hr with rfl | rfl | rfl | rfl | rfl | rfl
  · exact RowOK.rem .i64 (x := y) (y := 400) rfl rfl rfl (by decide) rfl
  · exact RowOK.cmp .i64 (x := y.tmod 400) (y := 0) rfl rfl (.inl ⟨rfl, rfl⟩)
  · exact RowOK.rem .i64 (x := y) (y := 4) rfl rfl rfl (by decide) rfl
  · exact RowOK.cmp .i64 (x := y.tmod 4) (y := 0) rfl rfl (.inl ⟨rfl, rfl⟩)
  · exact RowOK.rem .i64 (x := y) (y := 100) rfl rfl rfl (by decide) rfl
  · exact RowOK.cmp .i64 (x := y.tmod 100) (y := 0) rfl rfl (.inr (.inl ⟨rfl, rfl⟩))
theorem runLg : ∀ l : Bool, allB (fun m => rowRun (E0.askH 9 [] (memoKH glC [⟨fLeap1, [.sym 0], ⟨.bool l, []⟩⟩])) glC fLong1 [.sym 0, .int .i64 (Int.ofNat m)] 300 (.int .i64 (Int.ofNat (longN l m)))) months12 = true := by
  intro l
  cases l <;> kernel_rfl
theorem c_long1 {y : Int} (h : 1 ≤ y) {m : Nat} (h1 : 1 ≤ m) (h2 : m ≤ 12) : CV fLong1 #[.int .i64 y, .int .i64 m] (.int .i64 (longN (leapB y) m)) := by
  refine CallsV.script (E := E0) envOK 9 (σ := sgY y) (orows := []) (krows := [⟨fLeap1, [.sym 0], ⟨.bool (leapB y), []⟩⟩]) (fun m r hr => by cases hr) (fun m r hr => ?_) (rowRun_H (allB_spec (runLg (leapB y)) m (months12_mem h1 h2))) (fun _ => ⟨_, _, rfl, ⟨rfl, rfl⟩, _, _, rfl, rfl, rfl⟩) (fun _ => rfl) rfl
  simp only [List.mem_cons, List.mem_nil_iff, or_false] at hr
  subst hr
  exact KRow.ofV glC_OK glC_bare rfl rfl (va := #[.int .i64 y]) ⟨_, _, rfl, ⟨rfl, rfl⟩, rfl⟩ (.inl rfl) (u := .bool (leapB y)) rfl (c_leap1 h)
end
end Go.Proofs.YtjhnpcnamclfbaaGreatDoor
