import Derived.Test.YtnfpmiiopiinbaaGreatDoorH
set_option linter.all false
set_option maxRecDepth 100000
namespace Go.Rip
def ahR:Pure K 20 [.str [100,101,102,32,102,40,59,32,100,101,102,32,103,40,41,58,99,111,109,61,97,59]] (.az [.agg [.vec 4 .lC [co 1,.str [],bv 0,bv 0,bv 0,bv 4,co 3,.str [103],bv 0,bv 0,bv 8,bv 3,co 6,.str [],bv 1,bv 0,bv 16,bv 1,co 33,.str [97],bv 0,bv 0,bv 20,bv 1]],.vec 1 .lC [bv 6,bv 4],bv 0]):=Pure.iz (V:=V2) QT 1000 10 kY (by kernel_rfl)
end Go.Rip
