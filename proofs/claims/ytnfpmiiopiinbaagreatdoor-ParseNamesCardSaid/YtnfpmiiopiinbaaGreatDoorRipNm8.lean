/- Lemmas for the proof that ParseNames returns true: no conditions. -/
import Derived.Test.YtnfpmiiopiinbaaGreatDoorRipF
import Derived.Test.YtnfpmiiopiinbaaGreatDoorRipNm0
set_option maxRecDepth 100000
set_option linter.unusedVariables false
namespace Go.Rip
def sm_nm_24 : List (Nat × List AV × AV) := [(30, [.agg [.vec 8 .unk [.int .u8 1, .str [], .int .i64 0, .int .i64 0, .int .i64 0, .int .i64 8, .int .u8 3, .str [102], .int .i64 0, .int .i64 0, .int .i64 0, .int .i64 7, .int .u8 5, .str [97], .int .i64 0, .int .i64 0, .int .i64 8, .int .i64 2, .int .u8 6, .str [], .int .i64 2, .int .i64 0, .int .i64 12, .int .i64 1, .int .u8 6, .str [], .int .i64 1, .int .i64 0, .int .i64 22, .int .i64 1, .int .u8 9, .str [], .int .i64 0, .int .i64 0, .int .i64 31, .int .i64 3, .int .u8 33, .str [97], .int .i64 0, .int .i64 0, .int .i64 29, .int .i64 1, .int .u8 33, .str [98], .int .i64 0, .int .i64 0, .int .i64 33, .int .i64 1]]], (.int .i64 0))]
theorem sm_nm_24_ok : ∀ x ∈ sm_nm_24, Pure K x.1 x.2.1 x.2.2 := by
  intro x hx
  simp only [sm_nm_24, List.mem_cons, List.not_mem_nil, or_false] at hx
  rcases hx with rfl
  exact nm_2
theorem nm_24 : Pure K 38 [.agg [.vec 8 .unk [.int .u8 1, .str [], .int .i64 0, .int .i64 0, .int .i64 0, .int .i64 8, .int .u8 3, .str [102], .int .i64 0, .int .i64 0, .int .i64 0, .int .i64 7, .int .u8 5, .str [97], .int .i64 0, .int .i64 0, .int .i64 8, .int .i64 2, .int .u8 6, .str [], .int .i64 2, .int .i64 0, .int .i64 12, .int .i64 1, .int .u8 6, .str [], .int .i64 1, .int .i64 0, .int .i64 22, .int .i64 1, .int .u8 9, .str [], .int .i64 0, .int .i64 0, .int .i64 31, .int .i64 3, .int .u8 33, .str [97], .int .i64 0, .int .i64 0, .int .i64 29, .int .i64 1, .int .u8 33, .str [98], .int .i64 0, .int .i64 0, .int .i64 33, .int .i64 1]], .int .i64 0] (.tup [.int .i64 0, .int .i64 7]) := Pure.of_eval (V := V2s sm_nm_24) (V2s_ok sm_nm_24_ok) 1000 10 globC (by kernel_rfl)
def sm_nm_25 : List (Nat × List AV × AV) := [(30, [.agg [.vec 8 .unk [.int .u8 1, .str [], .int .i64 0, .int .i64 0, .int .i64 0, .int .i64 8, .int .u8 3, .str [102], .int .i64 0, .int .i64 0, .int .i64 0, .int .i64 7, .int .u8 5, .str [97], .int .i64 0, .int .i64 0, .int .i64 8, .int .i64 2, .int .u8 6, .str [], .int .i64 2, .int .i64 0, .int .i64 12, .int .i64 1, .int .u8 6, .str [], .int .i64 1, .int .i64 0, .int .i64 22, .int .i64 1, .int .u8 9, .str [], .int .i64 0, .int .i64 0, .int .i64 31, .int .i64 3, .int .u8 33, .str [97], .int .i64 0, .int .i64 0, .int .i64 29, .int .i64 1, .int .u8 33, .str [98], .int .i64 0, .int .i64 0, .int .i64 33, .int .i64 1]]], (.int .i64 0))]
theorem sm_nm_25_ok : ∀ x ∈ sm_nm_25, Pure K x.1 x.2.1 x.2.2 := by
  intro x hx
  simp only [sm_nm_25, List.mem_cons, List.not_mem_nil, or_false] at hx
  rcases hx with rfl
  exact nm_2
theorem nm_25 : Pure K 37 [.agg [.vec 8 .unk [.int .u8 1, .str [], .int .i64 0, .int .i64 0, .int .i64 0, .int .i64 8, .int .u8 3, .str [102], .int .i64 0, .int .i64 0, .int .i64 0, .int .i64 7, .int .u8 5, .str [97], .int .i64 0, .int .i64 0, .int .i64 8, .int .i64 2, .int .u8 6, .str [], .int .i64 2, .int .i64 0, .int .i64 12, .int .i64 1, .int .u8 6, .str [], .int .i64 1, .int .i64 0, .int .i64 22, .int .i64 1, .int .u8 9, .str [], .int .i64 0, .int .i64 0, .int .i64 31, .int .i64 3, .int .u8 33, .str [97], .int .i64 0, .int .i64 0, .int .i64 29, .int .i64 1, .int .u8 33, .str [98], .int .i64 0, .int .i64 0, .int .i64 33, .int .i64 1]], .str [103]] (.tup [.int .i64 0, .int .i64 7]) := Pure.of_eval (V := V2s sm_nm_25) (V2s_ok sm_nm_25_ok) 1000 10 globC (by kernel_rfl)
def sm_nm_26 : List (Nat × List AV × AV) := [(30, [.agg [.vec 8 .unk [.int .u8 1, .str [], .int .i64 0, .int .i64 0, .int .i64 0, .int .i64 8, .int .u8 3, .str [102], .int .i64 0, .int .i64 0, .int .i64 0, .int .i64 7, .int .u8 5, .str [97], .int .i64 0, .int .i64 0, .int .i64 8, .int .i64 2, .int .u8 6, .str [], .int .i64 2, .int .i64 0, .int .i64 12, .int .i64 1, .int .u8 6, .str [], .int .i64 1, .int .i64 0, .int .i64 22, .int .i64 1, .int .u8 9, .str [], .int .i64 0, .int .i64 0, .int .i64 31, .int .i64 3, .int .u8 33, .str [97], .int .i64 0, .int .i64 0, .int .i64 29, .int .i64 1, .int .u8 33, .str [98], .int .i64 0, .int .i64 0, .int .i64 33, .int .i64 1]]], (.int .i64 0))]
theorem sm_nm_26_ok : ∀ x ∈ sm_nm_26, Pure K x.1 x.2.1 x.2.2 := by
  intro x hx
  simp only [sm_nm_26, List.mem_cons, List.not_mem_nil, or_false] at hx
  rcases hx with rfl
  exact nm_2
theorem nm_26 : Pure K 28 [.agg [.vec 8 .unk [.int .u8 1, .str [], .int .i64 0, .int .i64 0, .int .i64 0, .int .i64 8, .int .u8 3, .str [102], .int .i64 0, .int .i64 0, .int .i64 0, .int .i64 7, .int .u8 5, .str [97], .int .i64 0, .int .i64 0, .int .i64 8, .int .i64 2, .int .u8 6, .str [], .int .i64 2, .int .i64 0, .int .i64 12, .int .i64 1, .int .u8 6, .str [], .int .i64 1, .int .i64 0, .int .i64 22, .int .i64 1, .int .u8 9, .str [], .int .i64 0, .int .i64 0, .int .i64 31, .int .i64 3, .int .u8 33, .str [97], .int .i64 0, .int .i64 0, .int .i64 29, .int .i64 1, .int .u8 33, .str [98], .int .i64 0, .int .i64 0, .int .i64 33, .int .i64 1]], .int .i64 (-1)] (.tup [.str [], .int .i64 3]) := Pure.of_eval (V := V2s sm_nm_26) (V2s_ok sm_nm_26_ok) 1000 10 globC (by kernel_rfl)
end Go.Rip
