/- Lemmas for the proof that ParseNames returns true: no conditions. -/
import Derived.Test.YtnfpmiiopiinbaaGreatDoorRipF
import Derived.Test.YtnfpmiiopiinbaaGreatDoorRipNm0
set_option maxRecDepth 100000
set_option linter.unusedVariables false
namespace Go.Rip
def sm_nm_3 : List (Nat × List AV × AV) := [(30, [.agg [.vec 8 .unk [.int .u8 1, .str [], .int .i64 0, .int .i64 0, .int .i64 0, .int .i64 8, .int .u8 3, .str [102], .int .i64 0, .int .i64 0, .int .i64 0, .int .i64 7, .int .u8 5, .str [97], .int .i64 0, .int .i64 0, .int .i64 8, .int .i64 2, .int .u8 6, .str [], .int .i64 2, .int .i64 0, .int .i64 12, .int .i64 1, .int .u8 6, .str [], .int .i64 1, .int .i64 0, .int .i64 22, .int .i64 1, .int .u8 9, .str [], .int .i64 0, .int .i64 0, .int .i64 31, .int .i64 3, .int .u8 33, .str [97], .int .i64 0, .int .i64 0, .int .i64 29, .int .i64 1, .int .u8 33, .str [98], .int .i64 0, .int .i64 0, .int .i64 33, .int .i64 1]]], (.int .i64 0))]
theorem sm_nm_3_ok : ∀ x ∈ sm_nm_3, Pure K x.1 x.2.1 x.2.2 := by
  intro x hx
  simp only [sm_nm_3, List.mem_cons, List.not_mem_nil, or_false] at hx
  rcases hx with rfl
  exact nm_2
theorem nm_3 : Pure K 28 [.agg [.vec 8 .unk [.int .u8 1, .str [], .int .i64 0, .int .i64 0, .int .i64 0, .int .i64 8, .int .u8 3, .str [102], .int .i64 0, .int .i64 0, .int .i64 0, .int .i64 7, .int .u8 5, .str [97], .int .i64 0, .int .i64 0, .int .i64 8, .int .i64 2, .int .u8 6, .str [], .int .i64 2, .int .i64 0, .int .i64 12, .int .i64 1, .int .u8 6, .str [], .int .i64 1, .int .i64 0, .int .i64 22, .int .i64 1, .int .u8 9, .str [], .int .i64 0, .int .i64 0, .int .i64 31, .int .i64 3, .int .u8 33, .str [97], .int .i64 0, .int .i64 0, .int .i64 29, .int .i64 1, .int .u8 33, .str [98], .int .i64 0, .int .i64 0, .int .i64 33, .int .i64 1]], .int .i64 0] (.tup [.str [100, 101, 102, 32, 102, 40, 97, 58, 98, 111, 111, 108, 41, 58, 99, 111, 109, 61, 97, 59, 98, 59, 10], .int .i64 0]) := Pure.of_eval (V := V2s sm_nm_3) (V2s_ok sm_nm_3_ok) 1000 10 globC (by kernel_rfl)
def sm_nm_4 : List (Nat × List AV × AV) := [(28, [.agg [.vec 8 .unk [.int .u8 1, .str [], .int .i64 0, .int .i64 0, .int .i64 0, .int .i64 8, .int .u8 3, .str [102], .int .i64 0, .int .i64 0, .int .i64 0, .int .i64 7, .int .u8 5, .str [97], .int .i64 0, .int .i64 0, .int .i64 8, .int .i64 2, .int .u8 6, .str [], .int .i64 2, .int .i64 0, .int .i64 12, .int .i64 1, .int .u8 6, .str [], .int .i64 1, .int .i64 0, .int .i64 22, .int .i64 1, .int .u8 9, .str [], .int .i64 0, .int .i64 0, .int .i64 31, .int .i64 3, .int .u8 33, .str [97], .int .i64 0, .int .i64 0, .int .i64 29, .int .i64 1, .int .u8 33, .str [98], .int .i64 0, .int .i64 0, .int .i64 33, .int .i64 1]], .int .i64 0], (.tup [.str [100, 101, 102, 32, 102, 40, 97, 58, 98, 111, 111, 108, 41, 58, 99, 111, 109, 61, 97, 59, 98, 59, 10], .int .i64 0]))]
theorem sm_nm_4_ok : ∀ x ∈ sm_nm_4, Pure K x.1 x.2.1 x.2.2 := by
  intro x hx
  simp only [sm_nm_4, List.mem_cons, List.not_mem_nil, or_false] at hx
  rcases hx with rfl
  exact nm_3
theorem nm_4 : Pure K 25 [.agg [.vec 8 .unk [.int .u8 1, .str [], .int .i64 0, .int .i64 0, .int .i64 0, .int .i64 8, .int .u8 3, .str [102], .int .i64 0, .int .i64 0, .int .i64 0, .int .i64 7, .int .u8 5, .str [97], .int .i64 0, .int .i64 0, .int .i64 8, .int .i64 2, .int .u8 6, .str [], .int .i64 2, .int .i64 0, .int .i64 12, .int .i64 1, .int .u8 6, .str [], .int .i64 1, .int .i64 0, .int .i64 22, .int .i64 1, .int .u8 9, .str [], .int .i64 0, .int .i64 0, .int .i64 31, .int .i64 3, .int .u8 33, .str [97], .int .i64 0, .int .i64 0, .int .i64 29, .int .i64 1, .int .u8 33, .str [98], .int .i64 0, .int .i64 0, .int .i64 33, .int .i64 1]]] (.tup [.str [100, 101, 102, 32, 102, 40, 97, 58, 98, 111, 111, 108, 41, 58, 99, 111, 109, 61, 97, 59, 98, 59, 10], .int .i64 0]) := Pure.of_eval (V := V2s sm_nm_4) (V2s_ok sm_nm_4_ok) 1000 10 globC (by kernel_rfl)
theorem nm_5 : Pure K 18 [.str [100, 101, 102, 32, 102, 40, 58, 99, 111, 109, 61, 97, 59]] (.tup [.agg [.nilslice], .int .i64 6, .int .i64 4]) := Pure.of_eval (V := V2) V2ok 1000 10 globC (by kernel_rfl)
end Go.Rip
