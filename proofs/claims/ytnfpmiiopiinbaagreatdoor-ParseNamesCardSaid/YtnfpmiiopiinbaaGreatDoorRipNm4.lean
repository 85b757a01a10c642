/- Lemmas for the proof that ParseNames returns true: no conditions. -/
import Derived.Test.YtnfpmiiopiinbaaGreatDoorRipF
import Derived.Test.YtnfpmiiopiinbaaGreatDoorRipNm3
set_option maxRecDepth 100000
set_option linter.unusedVariables false
namespace Go.Rip
theorem nm_12 : Pure K 30 [.agg [.vec 8 .unk [.int .u8 1, .str [], .int .i64 0, .int .i64 0, .int .i64 0, .int .i64 8, .int .u8 3, .str [102], .int .i64 0, .int .i64 0, .int .i64 0, .int .i64 7, .int .u8 6, .str [], .int .i64 1, .int .i64 0, .int .i64 8, .int .i64 1, .int .u8 22, .str [], .int .i64 0, .int .i64 0, .int .i64 17, .int .i64 5, .int .u8 24, .str [], .int .i64 0, .int .i64 0, .int .i64 14, .int .i64 3, .int .u8 33, .str [97], .int .i64 0, .int .i64 0, .int .i64 13, .int .i64 1, .int .u8 33, .str [98], .int .i64 0, .int .i64 0, .int .i64 15, .int .i64 1, .int .u8 33, .str [99], .int .i64 0, .int .i64 0, .int .i64 18, .int .i64 1]]] (.int .i64 0) := Pure.of_eval (V := V2) V2ok 1000 10 globC (by kernel_rfl)
def sm_nm_13 : List (Nat × List AV × AV) := [(30, [.agg [.vec 8 .unk [.int .u8 1, .str [], .int .i64 0, .int .i64 0, .int .i64 0, .int .i64 8, .int .u8 3, .str [102], .int .i64 0, .int .i64 0, .int .i64 0, .int .i64 7, .int .u8 6, .str [], .int .i64 1, .int .i64 0, .int .i64 8, .int .i64 1, .int .u8 22, .str [], .int .i64 0, .int .i64 0, .int .i64 17, .int .i64 5, .int .u8 24, .str [], .int .i64 0, .int .i64 0, .int .i64 14, .int .i64 3, .int .u8 33, .str [97], .int .i64 0, .int .i64 0, .int .i64 13, .int .i64 1, .int .u8 33, .str [98], .int .i64 0, .int .i64 0, .int .i64 15, .int .i64 1, .int .u8 33, .str [99], .int .i64 0, .int .i64 0, .int .i64 18, .int .i64 1]]], (.int .i64 0))]
theorem sm_nm_13_ok : ∀ x ∈ sm_nm_13, Pure K x.1 x.2.1 x.2.2 := by
  intro x hx
  simp only [sm_nm_13, List.mem_cons, List.not_mem_nil, or_false] at hx
  rcases hx with rfl
  exact nm_12
theorem nm_13 : Pure K 28 [.agg [.vec 8 .unk [.int .u8 1, .str [], .int .i64 0, .int .i64 0, .int .i64 0, .int .i64 8, .int .u8 3, .str [102], .int .i64 0, .int .i64 0, .int .i64 0, .int .i64 7, .int .u8 6, .str [], .int .i64 1, .int .i64 0, .int .i64 8, .int .i64 1, .int .u8 22, .str [], .int .i64 0, .int .i64 0, .int .i64 17, .int .i64 5, .int .u8 24, .str [], .int .i64 0, .int .i64 0, .int .i64 14, .int .i64 3, .int .u8 33, .str [97], .int .i64 0, .int .i64 0, .int .i64 13, .int .i64 1, .int .u8 33, .str [98], .int .i64 0, .int .i64 0, .int .i64 15, .int .i64 1, .int .u8 33, .str [99], .int .i64 0, .int .i64 0, .int .i64 18, .int .i64 1]], .int .i64 3] (.tup [.str [97, 42, 98, 43, 99], .int .i64 0]) := Pure.of_eval (V := V2s sm_nm_13) (V2s_ok sm_nm_13_ok) 1000 10 globC (by kernel_rfl)
def sm_nm_14 : List (Nat × List AV × AV) := [(18, [.str [100, 101, 102, 32, 102, 40, 41, 58, 99, 111, 109, 61, 40, 97, 42, 98, 41, 43, 99, 59]], (.tup [.agg [.vec 8 .unk [.int .u8 1, .str [], .int .i64 0, .int .i64 0, .int .i64 0, .int .i64 8, .int .u8 3, .str [102], .int .i64 0, .int .i64 0, .int .i64 0, .int .i64 7, .int .u8 6, .str [], .int .i64 1, .int .i64 0, .int .i64 8, .int .i64 1, .int .u8 22, .str [], .int .i64 0, .int .i64 0, .int .i64 17, .int .i64 5, .int .u8 24, .str [], .int .i64 0, .int .i64 0, .int .i64 14, .int .i64 3, .int .u8 33, .str [97], .int .i64 0, .int .i64 0, .int .i64 13, .int .i64 1, .int .u8 33, .str [98], .int .i64 0, .int .i64 0, .int .i64 15, .int .i64 1, .int .u8 33, .str [99], .int .i64 0, .int .i64 0, .int .i64 18, .int .i64 1]], .int .i64 0, .int .i64 0])),
  (28, [.agg [.vec 8 .unk [.int .u8 1, .str [], .int .i64 0, .int .i64 0, .int .i64 0, .int .i64 8, .int .u8 3, .str [102], .int .i64 0, .int .i64 0, .int .i64 0, .int .i64 7, .int .u8 6, .str [], .int .i64 1, .int .i64 0, .int .i64 8, .int .i64 1, .int .u8 22, .str [], .int .i64 0, .int .i64 0, .int .i64 17, .int .i64 5, .int .u8 24, .str [], .int .i64 0, .int .i64 0, .int .i64 14, .int .i64 3, .int .u8 33, .str [97], .int .i64 0, .int .i64 0, .int .i64 13, .int .i64 1, .int .u8 33, .str [98], .int .i64 0, .int .i64 0, .int .i64 15, .int .i64 1, .int .u8 33, .str [99], .int .i64 0, .int .i64 0, .int .i64 18, .int .i64 1]], .int .i64 3], (.tup [.str [97, 42, 98, 43, 99], .int .i64 0]))]
theorem sm_nm_14_ok : ∀ x ∈ sm_nm_14, Pure K x.1 x.2.1 x.2.2 := by
  intro x hx
  simp only [sm_nm_14, List.mem_cons, List.not_mem_nil, or_false] at hx
  rcases hx with rfl | rfl
  · exact nm_11
  · exact nm_13
theorem nm_14 : Pure K 52 [.str [40, 97, 42, 98, 41, 43, 99], .str [97, 42, 98, 43, 99]] (.bool true) := Pure.of_eval (V := V2s sm_nm_14) (V2s_ok sm_nm_14_ok) 1000 10 globC (by kernel_rfl)
end Go.Rip
