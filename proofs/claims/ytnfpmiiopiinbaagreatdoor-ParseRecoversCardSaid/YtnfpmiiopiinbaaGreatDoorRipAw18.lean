/- Lemmas for the proof: no conditions. -/
import Derived.Test.YtnfpmiiopiinbaaGreatDoorRipZz
import Derived.Test.YtnfpmiiopiinbaaGreatDoorRipH
set_option linter.unusedVariables false
set_option linter.unusedSimpArgs false
set_option linter.loopingSimpArgs false
set_option maxRecDepth 100000
namespace Go.Rip
theorem Yr:Pure K 18 [.str [101,120,112,111,114,116,32,102,40,41,58,98,111,111,108,61,120,60,49,59]] (.aQ [.agg [.vec 6 .eR [.int .u8 1,.str [],.int .i64 0,.int .i64 0,.int .i64 0,.int .i64 6,.int .u8 4,.str [102],.int .i64 0,.int .i64 0,.int .i64 0,.int .i64 5,.int .u8 6,.str [],.int .i64 2,.int .i64 0,.int .i64 11,.int .i64 1,.int .u8 21,.str [],.int .i64 0,.int .i64 0,.int .i64 17,.int .i64 3,.int .u8 33,.str [120],.int .i64 0,.int .i64 0,.int .i64 16,.int .i64 1,.int .u8 26,.str [],.int .i64 1,.int .i64 0,.int .i64 18,.int .i64 1]],.int .i64 0,.int .i64 0]):=Pure.dX (V:=V2) Io 1000 10 gj (by kernel_rfl)
end Go.Rip
