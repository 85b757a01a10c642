import Derived.Test.YtnfpmiiopiinbaaGreatDoorH
set_option linter.all false
set_option maxRecDepth 100000
namespace Go.Rip
def ahQ:Pure K 18 [.str [101,120,112,111,114,116,32,102,40,41,58,98,111,111,108,61,120,60,49,59]] (.az [.agg [.vec 6 .lC [co 1,.str [],bv 0,bv 0,bv 0,bv 6,co 4,.str [102],bv 0,bv 0,bv 0,bv 5,co 6,.str [],bv 2,bv 0,bv 11,bv 1,co 21,.str [],bv 0,bv 0,bv 17,bv 3,co 33,.str [120],bv 0,bv 0,bv 16,bv 1,co 26,.str [],bv 1,bv 0,bv 18,bv 1]],bv 0,bv 0]):=Pure.iz (V:=V2) QT 1000 10 kY (by kernel_rfl)
end Go.Rip
