import Derived.Test.YtnfpmiiopiinbaaGreatDoorCards
import Derived.KernelRfl
import Derived.Test.YtnfpmiiopiinbaaGreatDoorMeT
namespace Go.Proofs.YtnfpmiiopiinbaaGreatDoor.parseMemory
set_option maxRecDepth 100000
theorem c3:false=Rows.parseMemoryRow.goesBy Tryz.pinned.checked.prog:=by kernel_rfl
end Go.Proofs.YtnfpmiiopiinbaaGreatDoor.parseMemory
