import Derived.Test.YtnfpmiiopiinbaaGreatDoorRows
import Derived.WalkKit
import Derived.ProofKit
import Derived.Deep.DeepHandedRow
import Derived.KernelRfl
namespace Go.Proofs.YtnfpmiiopiinbaaGreatDoor.parseMemory
set_option maxRecDepth 100000
theorem fact27:(Rows.parseMemoryRow.lifted==Tryz.pinned.checked.prog.liftsFinal)=true:=by kernel_rfl
end Go.Proofs.YtnfpmiiopiinbaaGreatDoor.parseMemory
