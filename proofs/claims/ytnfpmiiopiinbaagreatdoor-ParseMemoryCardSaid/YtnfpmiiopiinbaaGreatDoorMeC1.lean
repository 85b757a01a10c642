import Derived.Test.YtnfpmiiopiinbaaGreatDoorCards
import Derived.KernelRfl
import Derived.Test.YtnfpmiiopiinbaaGreatDoorMeT
namespace Go.Proofs.YtnfpmiiopiinbaaGreatDoor.parseMemory
set_option maxRecDepth 100000
theorem c1:Rows.parseMemoryRow.wfByText (OpenSpec.ofChange Rows.parseMemorySpec)=true:=by kernel_rfl
theorem c2:Tryz.pinned.checked.prog.mainIs=some (true, "2c276ba2bcf7a791c1ef8ab8c98a8a21e976480ca404c5915ae7b1848dce5b58".toList):=by kernel_rfl
end Go.Proofs.YtnfpmiiopiinbaaGreatDoor.parseMemory
