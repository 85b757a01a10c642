/- Lemmas for the proof that ParseNames returns true: no conditions. -/
import Derived.Test.YtnfpmiiopiinbaaGreatDoorRows
import Derived.WalkKit
import Derived.ProofKit
import Derived.Deep.DeepHandedRow
import Derived.KernelRfl
/- Closed facts of the row of parseNames. -/
namespace Go.Proofs.YtnfpmiiopiinbaaGreatDoor.parseNames
set_option maxRecDepth 100000
theorem fact10 : (Rows.parseNamesRow.inPlace == Tryz.pinned.checked.prog.inPlace 16) = true := by kernel_rfl
end Go.Proofs.YtnfpmiiopiinbaaGreatDoor.parseNames
