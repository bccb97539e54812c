/- Runs of closed calls, by the kernel. No condition. -/
import Derived.Test.YtddeekefomhbmaaGreatDoorRe
namespace Go.Proofs.YtddeekefomhbmaaGreatDoor
open Go Go.Eng

set_option maxRecDepth 100000
def englishNames : List Nat := [1002, 1001, 1005, 1008, 1011, 1012, 1013, 1014, 1017, 1018, 1019, 1020, 1023, 1024, 1025, 1026, 1029, 1032, 1035, 1038, 1041, 1044, 1047, 1050, 1053, 1054, 1055, 1056, 1057, 1058, 1059, 1060, 1061, 1062, 1063, 1064, 1067, 1068, 1069, 1070, 1071, 1072, 1073]
noncomputable def englishImg : Img := ⟨.ptr 1000 0, [
  .cells [.str [101,110], .int .i64 0, .int .i64 0, .map 1001] 152 true,
  .map [(.agg [.int .i64 0, .int .i64 0], .slice 1002 0 2 2 1, 0), (.agg [.int .i64 1, .int .i64 0], .slice 1003 0 2 2 1, 1), (.agg [.int .i64 2, .int .i64 0], .slice 1004 0 3 3 1, 2), (.agg [.int .i64 2, .int .i64 1], .slice 1005 0 3 3 1, 3), (.agg [.int .i64 2, .int .i64 2], .slice 1006 0 3 3 1, 4), (.agg [.int .i64 2, .int .i64 3], .slice 1007 0 3 3 1, 5), (.agg [.int .i64 3, .int .i64 0], .slice 1008 0 1 1 1, 6), (.agg [.int .i64 3, .int .i64 1], .slice 1009 0 1 1 1, 7), (.agg [.int .i64 3, .int .i64 2], .slice 1010 0 1 1 1, 8), (.agg [.int .i64 3, .int .i64 3], .slice 1011 0 2 2 1, 9), (.agg [.int .i64 4, .int .i64 0], .slice 1012 0 1 1 1, 10), (.agg [.int .i64 4, .int .i64 1], .slice 1013 0 1 1 1, 11), (.agg [.int .i64 4, .int .i64 2], .slice 1014 0 1 1 1, 12), (.agg [.int .i64 4, .int .i64 3], .slice 1015 0 2 2 1, 13), (.agg [.int .i64 5, .int .i64 0], .slice 1016 0 1 1 1, 14), (.agg [.int .i64 6, .int .i64 0], .slice 1017 0 2 2 1, 15), (.agg [.int .i64 7, .int .i64 0], .slice 1018 0 2 2 1, 16), (.agg [.int .i64 8, .int .i64 0], .slice 1019 0 2 2 1, 17), (.agg [.int .i64 9, .int .i64 0], .slice 1020 0 1 1 1, 18), (.agg [.int .i64 10, .int .i64 0], .slice 1021 0 1 1 1, 19), (.agg [.int .i64 11, .int .i64 0], .slice 1022 0 2 2 1, 20), (.agg [.int .i64 12, .int .i64 0], .slice 1023 0 3 3 1, 21), (.agg [.int .i64 13, .int .i64 0], .slice 1024 0 2 2 1, 22), (.agg [.int .i64 13, .int .i64 1], .slice 1025 0 2 2 1, 23), (.agg [.int .i64 13, .int .i64 2], .slice 1026 0 2 2 1, 24), (.agg [.int .i64 13, .int .i64 3], .slice 1027 0 2 2 1, 25), (.agg [.int .i64 13, .int .i64 4], .slice 1028 0 1 1 1, 26), (.agg [.int .i64 13, .int .i64 5], .slice 1029 0 2 2 1, 27), (.agg [.int .i64 13, .int .i64 6], .slice 1030 0 2 2 1, 28), (.agg [.int .i64 13, .int .i64 7], .slice 1031 0 2 2 1, 29), (.agg [.int .i64 13, .int .i64 8], .slice 1032 0 2 2 1, 30), (.agg [.int .i64 13, .int .i64 9], .slice 1033 0 2 2 1, 31), (.agg [.int .i64 13, .int .i64 10], .slice 1034 0 2 2 1, 32), (.agg [.int .i64 13, .int .i64 11], .slice 1035 0 2 2 1, 33), (.agg [.int .i64 14, .int .i64 0], .slice 1036 0 3 3 1, 34), (.agg [.int .i64 14, .int .i64 1], .slice 1037 0 3 3 1, 35), (.agg [.int .i64 14, .int .i64 2], .slice 1038 0 3 3 1, 36), (.agg [.int .i64 14, .int .i64 3], .slice 1039 0 3 3 1, 37), (.agg [.int .i64 14, .int .i64 4], .slice 1040 0 3 3 1, 38), (.agg [.int .i64 14, .int .i64 5], .slice 1041 0 3 3 1, 39), (.agg [.int .i64 14, .int .i64 6], .slice 1042 0 3 3 1, 40)] 41,
  .cells [.str [101,118,101,114,121], .str [101,97,99,104]] 9 true,
  .cells [.str [101,118,101,114,121,32,111,116,104,101,114], .str [101,118,101,114,121,32,115,101,99,111,110,100]] 9 true,
  .cells [.str [100,97,121], .str [100,97,121,115], .str [100,97,121,115]] 9 true,
  .cells [.str [119,101,101,107], .str [119,101,101,107,115], .str [119,101,101,107,115]] 9 true,
  .cells [.str [109,111,110,116,104], .str [109,111,110,116,104,115], .str [109,111,110,116,104,115]] 9 true,
  .cells [.str [121,101,97,114], .str [121,101,97,114,115], .str [121,101,97,114,115]] 9 true,
  .cells [.str [100,97,105,108,121]] 9 true,
  .cells [.str [119,101,101,107,108,121]] 9 true,
  .cells [.str [109,111,110,116,104,108,121]] 9 true,
  .cells [.str [121,101,97,114,108,121], .str [97,110,110,117,97,108,108,121]] 9 true,
  .cells [.str [98,105,100,97,105,108,121]] 9 true,
  .cells [.str [98,105,119,101,101,107,108,121]] 9 true,
  .cells [.str [98,105,109,111,110,116,104,108,121]] 9 true,
  .cells [.str [98,105,121,101,97,114,108,121], .str [98,105,97,110,110,117,97,108,108,121]] 9 true,
  .cells [.str [105,110]] 9 true,
  .cells [.str [111,110,32,116,104,101], .str [111,110]] 9 true,
  .cells [.str [111,110,108,121,32,116,104,101], .str [111,110,108,121]] 9 true,
  .cells [.str [117,110,116,105,108], .str [116,105,108,108]] 9 true,
  .cells [.str [102,111,114]] 9 true,
  .cells [.str [97,110,100]] 9 true,
  .cells [.str [108,97,115,116], .str [116,111,32,108,97,115,116]] 9 true,
  .cells [.str [116,105,109,101], .str [116,105,109,101,115], .str [116,105,109,101,115]] 9 true,
  .cells [.str [106,97,110,117,97,114,121], .str [106,97,110]] 9 true,
  .cells [.str [102,101,98,114,117,97,114,121], .str [102,101,98]] 9 true,
  .cells [.str [109,97,114,99,104], .str [109,97,114]] 9 true,
  .cells [.str [97,112,114,105,108], .str [97,112,114]] 9 true,
  .cells [.str [109,97,121]] 9 true,
  .cells [.str [106,117,110,101], .str [106,117,110]] 9 true,
  .cells [.str [106,117,108,121], .str [106,117,108]] 9 true,
  .cells [.str [97,117,103,117,115,116], .str [97,117,103]] 9 true,
  .cells [.str [115,101,112,116,101,109,98,101,114], .str [115,101,112]] 9 true,
  .cells [.str [111,99,116,111,98,101,114], .str [111,99,116]] 9 true,
  .cells [.str [110,111,118,101,109,98,101,114], .str [110,111,118]] 9 true,
  .cells [.str [100,101,99,101,109,98,101,114], .str [100,101,99]] 9 true,
  .cells [.str [109,111,110,100,97,121], .str [109,111,110,100,97,121,115], .str [109,111,110]] 9 true,
  .cells [.str [116,117,101,115,100,97,121], .str [116,117,101,115,100,97,121,115], .str [116,117,101]] 9 true,
  .cells [.str [119,101,100,110,101,115,100,97,121], .str [119,101,100,110,101,115,100,97,121,115], .str [119,101,100]] 9 true,
  .cells [.str [116,104,117,114,115,100,97,121], .str [116,104,117,114,115,100,97,121,115], .str [116,104,117]] 9 true,
  .cells [.str [102,114,105,100,97,121], .str [102,114,105,100,97,121,115], .str [102,114,105]] 9 true,
  .cells [.str [115,97,116,117,114,100,97,121], .str [115,97,116,117,114,100,97,121,115], .str [115,97,116]] 9 true,
  .cells [.str [115,117,110,100,97,121], .str [115,117,110,100,97,121,115], .str [115,117,110]] 9 true]⟩

theorem runenglish : imgRun (EM []) gl 68 40000 englishNames englishImg = true := by kernel_rfl
theorem knowenglish : KnownI Tryz.prog gl 68 englishImg := knows [] (fun _ h => by cases h) runenglish

end Go.Proofs.YtddeekefomhbmaaGreatDoor
