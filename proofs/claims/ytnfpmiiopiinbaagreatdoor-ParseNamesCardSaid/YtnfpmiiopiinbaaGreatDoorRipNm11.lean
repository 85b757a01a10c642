/- Lemmas for the proof that ParseNames returns true: no conditions. -/
import Derived.Test.YtnfpmiiopiinbaaGreatDoorRipF
import Derived.Test.YtnfpmiiopiinbaaGreatDoorRipNm0
import Derived.Test.YtnfpmiiopiinbaaGreatDoorRipNm1
import Derived.Test.YtnfpmiiopiinbaaGreatDoorRipNm2
import Derived.Test.YtnfpmiiopiinbaaGreatDoorRipNm3
import Derived.Test.YtnfpmiiopiinbaaGreatDoorRipNm4
import Derived.Test.YtnfpmiiopiinbaaGreatDoorRipNm6
import Derived.Test.YtnfpmiiopiinbaaGreatDoorRipNm7
import Derived.Test.YtnfpmiiopiinbaaGreatDoorRipNm8
import Derived.Test.YtnfpmiiopiinbaaGreatDoorRipNm9
import Derived.Test.YtnfpmiiopiinbaaGreatDoorRipNm10
set_option maxRecDepth 100000
set_option linter.unusedVariables false
namespace Go.Rip
theorem nm_33 : Pure K 20 [.str [100, 101, 102, 32, 102, 40, 59, 32, 100, 101, 102, 32, 103, 40, 41, 58, 99, 111, 109, 61, 97, 59]] (.tup [.agg [.vec 4 .unk [.int .u8 1, .str [], .int .i64 0, .int .i64 0, .int .i64 0, .int .i64 4, .int .u8 3, .str [103], .int .i64 0, .int .i64 0, .int .i64 8, .int .i64 3, .int .u8 6, .str [], .int .i64 1, .int .i64 0, .int .i64 16, .int .i64 1, .int .u8 33, .str [97], .int .i64 0, .int .i64 0, .int .i64 20, .int .i64 1]], .vec 1 .unk [.int .i64 6, .int .i64 4], .int .i64 0]) := Pure.of_eval (V := V2) V2ok 1000 10 globC (by kernel_rfl)
def sm_nm_34 : List (Nat × List AV × AV) := [(18, [.str [101, 120, 112, 111, 114, 116, 32, 102, 40, 41, 58, 98, 111, 111, 108, 61, 120, 60, 49, 59]], (.tup [.agg [.vec 6 .unk [.int .u8 1, .str [], .int .i64 0, .int .i64 0, .int .i64 0, .int .i64 6, .int .u8 4, .str [102], .int .i64 0, .int .i64 0, .int .i64 0, .int .i64 5, .int .u8 6, .str [], .int .i64 2, .int .i64 0, .int .i64 11, .int .i64 1, .int .u8 21, .str [], .int .i64 0, .int .i64 0, .int .i64 17, .int .i64 3, .int .u8 33, .str [120], .int .i64 0, .int .i64 0, .int .i64 16, .int .i64 1, .int .u8 26, .str [], .int .i64 1, .int .i64 0, .int .i64 18, .int .i64 1]], .int .i64 0, .int .i64 0])),
  (26, [.agg [.vec 6 .unk [.int .u8 1, .str [], .int .i64 0, .int .i64 0, .int .i64 0, .int .i64 6, .int .u8 4, .str [102], .int .i64 0, .int .i64 0, .int .i64 0, .int .i64 5, .int .u8 6, .str [], .int .i64 2, .int .i64 0, .int .i64 11, .int .i64 1, .int .u8 21, .str [], .int .i64 0, .int .i64 0, .int .i64 17, .int .i64 3, .int .u8 33, .str [120], .int .i64 0, .int .i64 0, .int .i64 16, .int .i64 1, .int .u8 26, .str [], .int .i64 1, .int .i64 0, .int .i64 18, .int .i64 1]]], (.agg [.vec 6 .unk [.int .u8 1, .str [], .int .i64 0, .int .i64 0, .int .i64 0, .int .i64 6, .int .u8 4, .str [102], .int .i64 0, .int .i64 0, .int .i64 0, .int .i64 5, .int .u8 6, .str [], .int .i64 2, .int .i64 0, .int .i64 11, .int .i64 1, .int .u8 21, .str [], .int .i64 0, .int .i64 0, .int .i64 17, .int .i64 3, .int .u8 33, .str [120], .int .i64 0, .int .i64 0, .int .i64 16, .int .i64 1, .int .u8 26, .str [], .int .i64 1, .int .i64 0, .int .i64 18, .int .i64 1]])),
  (28, [.agg [.vec 6 .unk [.int .u8 1, .str [], .int .i64 0, .int .i64 0, .int .i64 0, .int .i64 6, .int .u8 4, .str [102], .int .i64 0, .int .i64 0, .int .i64 0, .int .i64 5, .int .u8 6, .str [], .int .i64 2, .int .i64 0, .int .i64 11, .int .i64 1, .int .u8 21, .str [], .int .i64 0, .int .i64 0, .int .i64 17, .int .i64 3, .int .u8 33, .str [120], .int .i64 0, .int .i64 0, .int .i64 16, .int .i64 1, .int .u8 26, .str [], .int .i64 1, .int .i64 0, .int .i64 18, .int .i64 1]], .int .i64 3], (.tup [.str [120, 60, 49], .int .i64 0])),
  (20, [.str [100, 101, 102, 32, 102, 40, 59, 32, 100, 101, 102, 32, 103, 40, 41, 58, 99, 111, 109, 61, 97, 59]], (.tup [.agg [.vec 4 .unk [.int .u8 1, .str [], .int .i64 0, .int .i64 0, .int .i64 0, .int .i64 4, .int .u8 3, .str [103], .int .i64 0, .int .i64 0, .int .i64 8, .int .i64 3, .int .u8 6, .str [], .int .i64 1, .int .i64 0, .int .i64 16, .int .i64 1, .int .u8 33, .str [97], .int .i64 0, .int .i64 0, .int .i64 20, .int .i64 1]], .vec 1 .unk [.int .i64 6, .int .i64 4], .int .i64 0]))]
theorem sm_nm_34_ok : ∀ x ∈ sm_nm_34, Pure K x.1 x.2.1 x.2.2 := by
  intro x hx
  simp only [sm_nm_34, List.mem_cons, List.not_mem_nil, or_false] at hx
  rcases hx with rfl | rfl | rfl | rfl
  · exact nm_29
  · exact nm_30
  · exact nm_32
  · exact nm_33
theorem nm_34 : Pure K 17 [] (.bool true) := Pure.of_eval (V := V2s sm_nm_34) (V2s_ok sm_nm_34_ok) 1000 10 globC (by kernel_rfl)
def sm_nm_35 : List (Nat × List AV × AV) := [(18, [.str [100, 101, 102, 32, 102, 32, 40, 32, 97, 32, 58, 32, 105, 110, 116, 32, 50, 32, 41, 32, 58, 32, 99, 111, 109, 32, 61, 32, 40, 97, 32, 59, 32, 98, 41, 32, 59]], (.tup [.agg [.vec 8 .unk [.int .u8 1, .str [], .int .i64 0, .int .i64 0, .int .i64 0, .int .i64 8, .int .u8 3, .str [102], .int .i64 0, .int .i64 0, .int .i64 0, .int .i64 7, .int .u8 5, .str [97], .int .i64 0, .int .i64 0, .int .i64 8, .int .i64 2, .int .u8 6, .str [], .int .i64 2, .int .i64 0, .int .i64 12, .int .i64 1, .int .u8 6, .str [], .int .i64 1, .int .i64 0, .int .i64 22, .int .i64 1, .int .u8 9, .str [], .int .i64 0, .int .i64 0, .int .i64 31, .int .i64 3, .int .u8 33, .str [97], .int .i64 0, .int .i64 0, .int .i64 29, .int .i64 1, .int .u8 33, .str [98], .int .i64 0, .int .i64 0, .int .i64 33, .int .i64 1]], .int .i64 0, .int .i64 0])),
  (26, [.agg [.vec 8 .unk [.int .u8 1, .str [], .int .i64 0, .int .i64 0, .int .i64 0, .int .i64 8, .int .u8 3, .str [102], .int .i64 0, .int .i64 0, .int .i64 0, .int .i64 7, .int .u8 5, .str [97], .int .i64 0, .int .i64 0, .int .i64 8, .int .i64 2, .int .u8 6, .str [], .int .i64 2, .int .i64 0, .int .i64 12, .int .i64 1, .int .u8 6, .str [], .int .i64 1, .int .i64 0, .int .i64 22, .int .i64 1, .int .u8 9, .str [], .int .i64 0, .int .i64 0, .int .i64 31, .int .i64 3, .int .u8 33, .str [97], .int .i64 0, .int .i64 0, .int .i64 29, .int .i64 1, .int .u8 33, .str [98], .int .i64 0, .int .i64 0, .int .i64 33, .int .i64 1]]], (.agg [.vec 8 .unk [.int .u8 1, .str [], .int .i64 0, .int .i64 0, .int .i64 0, .int .i64 8, .int .u8 3, .str [102], .int .i64 0, .int .i64 0, .int .i64 0, .int .i64 7, .int .u8 5, .str [97], .int .i64 0, .int .i64 0, .int .i64 8, .int .i64 2, .int .u8 6, .str [], .int .i64 2, .int .i64 0, .int .i64 12, .int .i64 1, .int .u8 6, .str [], .int .i64 1, .int .i64 0, .int .i64 22, .int .i64 1, .int .u8 9, .str [], .int .i64 0, .int .i64 0, .int .i64 31, .int .i64 3, .int .u8 33, .str [97], .int .i64 0, .int .i64 0, .int .i64 29, .int .i64 1, .int .u8 33, .str [98], .int .i64 0, .int .i64 0, .int .i64 33, .int .i64 1]])),
  (25, [.agg [.vec 8 .unk [.int .u8 1, .str [], .int .i64 0, .int .i64 0, .int .i64 0, .int .i64 8, .int .u8 3, .str [102], .int .i64 0, .int .i64 0, .int .i64 0, .int .i64 7, .int .u8 5, .str [97], .int .i64 0, .int .i64 0, .int .i64 8, .int .i64 2, .int .u8 6, .str [], .int .i64 2, .int .i64 0, .int .i64 12, .int .i64 1, .int .u8 6, .str [], .int .i64 1, .int .i64 0, .int .i64 22, .int .i64 1, .int .u8 9, .str [], .int .i64 0, .int .i64 0, .int .i64 31, .int .i64 3, .int .u8 33, .str [97], .int .i64 0, .int .i64 0, .int .i64 29, .int .i64 1, .int .u8 33, .str [98], .int .i64 0, .int .i64 0, .int .i64 33, .int .i64 1]]], (.tup [.str [100, 101, 102, 32, 102, 40, 97, 58, 98, 111, 111, 108, 41, 58, 99, 111, 109, 61, 97, 59, 98, 59, 10], .int .i64 0])),
  (18, [.str [100, 101, 102, 32, 102, 40, 58, 99, 111, 109, 61, 97, 59]], (.tup [.agg [.nilslice], .int .i64 6, .int .i64 4])),
  (18, [.str [100, 101, 102, 32, 102, 40, 41, 58, 99, 111, 109, 61, 97]], (.tup [.agg [.nilslice], .int .i64 13, .int .i64 4])),
  (52, [.str [40, 97, 43, 98, 41, 42, 99], .str [40, 97, 43, 98, 41, 42, 99]], (.bool true)),
  (52, [.str [40, 97, 42, 98, 41, 43, 99], .str [97, 42, 98, 43, 99]], (.bool true)),
  (52, [.str [97, 45, 40, 98, 45, 99, 41], .str [97, 45, 40, 98, 45, 99, 41]], (.bool true)),
  (52, [.str [105, 102, 32, 40, 97, 59, 98, 41, 32, 116, 104, 101, 110, 32, 99, 32, 101, 108, 115, 101, 32, 40, 100, 58, 61, 101, 41], .str [105, 102, 40, 97, 59, 98, 41, 116, 104, 101, 110, 32, 99, 32, 101, 108, 115, 101, 32, 100, 58, 61, 101]], (.bool true)),
  (35, [.agg [.vec 8 .unk [.int .u8 1, .str [], .int .i64 0, .int .i64 0, .int .i64 0, .int .i64 8, .int .u8 3, .str [102], .int .i64 0, .int .i64 0, .int .i64 0, .int .i64 7, .int .u8 5, .str [97], .int .i64 0, .int .i64 0, .int .i64 8, .int .i64 2, .int .u8 6, .str [], .int .i64 2, .int .i64 0, .int .i64 12, .int .i64 1, .int .u8 6, .str [], .int .i64 1, .int .i64 0, .int .i64 22, .int .i64 1, .int .u8 9, .str [], .int .i64 0, .int .i64 0, .int .i64 31, .int .i64 3, .int .u8 33, .str [97], .int .i64 0, .int .i64 0, .int .i64 29, .int .i64 1, .int .u8 33, .str [98], .int .i64 0, .int .i64 0, .int .i64 33, .int .i64 1]], .int .i64 9], (.tup [.nilslice, .int .i64 3])),
  (38, [.agg [.vec 8 .unk [.int .u8 1, .str [], .int .i64 0, .int .i64 0, .int .i64 0, .int .i64 8, .int .u8 3, .str [102], .int .i64 0, .int .i64 0, .int .i64 0, .int .i64 7, .int .u8 5, .str [97], .int .i64 0, .int .i64 0, .int .i64 8, .int .i64 2, .int .u8 6, .str [], .int .i64 2, .int .i64 0, .int .i64 12, .int .i64 1, .int .u8 6, .str [], .int .i64 1, .int .i64 0, .int .i64 22, .int .i64 1, .int .u8 9, .str [], .int .i64 0, .int .i64 0, .int .i64 31, .int .i64 3, .int .u8 33, .str [97], .int .i64 0, .int .i64 0, .int .i64 29, .int .i64 1, .int .u8 33, .str [98], .int .i64 0, .int .i64 0, .int .i64 33, .int .i64 1]], .int .i64 0], (.tup [.int .i64 0, .int .i64 7])),
  (37, [.agg [.vec 8 .unk [.int .u8 1, .str [], .int .i64 0, .int .i64 0, .int .i64 0, .int .i64 8, .int .u8 3, .str [102], .int .i64 0, .int .i64 0, .int .i64 0, .int .i64 7, .int .u8 5, .str [97], .int .i64 0, .int .i64 0, .int .i64 8, .int .i64 2, .int .u8 6, .str [], .int .i64 2, .int .i64 0, .int .i64 12, .int .i64 1, .int .u8 6, .str [], .int .i64 1, .int .i64 0, .int .i64 22, .int .i64 1, .int .u8 9, .str [], .int .i64 0, .int .i64 0, .int .i64 31, .int .i64 3, .int .u8 33, .str [97], .int .i64 0, .int .i64 0, .int .i64 29, .int .i64 1, .int .u8 33, .str [98], .int .i64 0, .int .i64 0, .int .i64 33, .int .i64 1]], .str [103]], (.tup [.int .i64 0, .int .i64 7])),
  (28, [.agg [.vec 8 .unk [.int .u8 1, .str [], .int .i64 0, .int .i64 0, .int .i64 0, .int .i64 8, .int .u8 3, .str [102], .int .i64 0, .int .i64 0, .int .i64 0, .int .i64 7, .int .u8 5, .str [97], .int .i64 0, .int .i64 0, .int .i64 8, .int .i64 2, .int .u8 6, .str [], .int .i64 2, .int .i64 0, .int .i64 12, .int .i64 1, .int .u8 6, .str [], .int .i64 1, .int .i64 0, .int .i64 22, .int .i64 1, .int .u8 9, .str [], .int .i64 0, .int .i64 0, .int .i64 31, .int .i64 3, .int .u8 33, .str [97], .int .i64 0, .int .i64 0, .int .i64 29, .int .i64 1, .int .u8 33, .str [98], .int .i64 0, .int .i64 0, .int .i64 33, .int .i64 1]], .int .i64 (-1)], (.tup [.str [], .int .i64 3])),
  (50, [.agg [.vec 8 .unk [.int .u8 1, .str [], .int .i64 0, .int .i64 0, .int .i64 0, .int .i64 8, .int .u8 3, .str [102], .int .i64 0, .int .i64 0, .int .i64 0, .int .i64 7, .int .u8 5, .str [97], .int .i64 0, .int .i64 0, .int .i64 8, .int .i64 2, .int .u8 6, .str [], .int .i64 2, .int .i64 0, .int .i64 12, .int .i64 1, .int .u8 6, .str [], .int .i64 1, .int .i64 0, .int .i64 22, .int .i64 1, .int .u8 9, .str [], .int .i64 0, .int .i64 0, .int .i64 31, .int .i64 3, .int .u8 33, .str [97], .int .i64 0, .int .i64 0, .int .i64 29, .int .i64 1, .int .u8 33, .str [98], .int .i64 0, .int .i64 0, .int .i64 33, .int .i64 1]], .int .i64 5, .vec 1 .full [.int .u8 6, .str [], .int .i64 3, .int .i64 0, .int .i64 0, .int .i64 1]], (.tup [.agg [.nilslice], .int .i64 4])),
  (30, [.agg [.nilslice]], (.int .i64 4)),
  (17, [], (.bool true))]
theorem sm_nm_35_ok : ∀ x ∈ sm_nm_35, Pure K x.1 x.2.1 x.2.2 := by
  intro x hx
  simp only [sm_nm_35, List.mem_cons, List.not_mem_nil, or_false] at hx
  rcases hx with rfl | rfl | rfl | rfl | rfl | rfl | rfl | rfl | rfl | rfl | rfl | rfl | rfl | rfl | rfl | rfl
  · exact nm_0
  · exact nm_1
  · exact nm_4
  · exact nm_5
  · exact nm_6
  · exact nm_10
  · exact nm_14
  · exact nm_18
  · exact nm_22
  · exact nm_23
  · exact nm_24
  · exact nm_25
  · exact nm_26
  · exact nm_27
  · exact nm_28
  · exact nm_34
theorem nm_35 : Pure K 16 [] (.bool true) := Pure.of_eval (V := V2s sm_nm_35) (V2s_ok sm_nm_35_ok) 1000 10 globC (by kernel_rfl)
end Go.Rip
