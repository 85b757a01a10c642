/- Lemmas for the proof that ParseNames returns true: no conditions. -/
import Derived.Test.YtnfpmiiopiinbaaGreatDoorRows
import Derived.WalkKit
import Derived.ProofKit
import Derived.Deep.DeepHandedRow
import Derived.KernelRfl
/- Closed facts of the row of parseNames. -/
namespace Go.Proofs.YtnfpmiiopiinbaaGreatDoor.parseNames
set_option maxRecDepth 100000
theorem fact26 : Tryz.pinned.checked.prog.mayEnter = true := by kernel_rfl
end Go.Proofs.YtnfpmiiopiinbaaGreatDoor.parseNames
