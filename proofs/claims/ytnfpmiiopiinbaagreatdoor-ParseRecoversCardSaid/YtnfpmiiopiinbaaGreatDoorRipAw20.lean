/- Lemmas for the proof: no conditions. -/
import Derived.Test.YtnfpmiiopiinbaaGreatDoorRipZz
import Derived.Test.YtnfpmiiopiinbaaGreatDoorRipH
set_option linter.unusedVariables false
set_option linter.unusedSimpArgs false
set_option linter.loopingSimpArgs false
set_option maxRecDepth 100000
namespace Go.Rip
theorem Ys:Pure K 20 [.str [100,101,102,32,102,40,59,32,100,101,102,32,103,40,41,58,99,111,109,61,97,59]] (.aQ [.agg [.vec 4 .eR [.int .u8 1,.str [],.int .i64 0,.int .i64 0,.int .i64 0,.int .i64 4,.int .u8 3,.str [103],.int .i64 0,.int .i64 0,.int .i64 8,.int .i64 3,.int .u8 6,.str [],.int .i64 1,.int .i64 0,.int .i64 16,.int .i64 1,.int .u8 33,.str [97],.int .i64 0,.int .i64 0,.int .i64 20,.int .i64 1]],.vec 1 .eR [.int .i64 6,.int .i64 4],.int .i64 0]):=Pure.dX (V:=V2) Io 1000 10 gj (by kernel_rfl)
end Go.Rip
