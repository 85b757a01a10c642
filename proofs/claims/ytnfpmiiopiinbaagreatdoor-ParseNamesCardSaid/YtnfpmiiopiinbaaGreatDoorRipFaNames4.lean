/- Lemmas for the proof that ParseNames returns true: no conditions. -/
import Derived.Test.YtnfpmiiopiinbaaGreatDoorRows
import Derived.WalkKit
import Derived.ProofKit
import Derived.Deep.DeepHandedRow
import Derived.KernelRfl
/- Closed facts of the row of parseNames. -/
namespace Go.Proofs.YtnfpmiiopiinbaaGreatDoor.parseNames
set_option maxRecDepth 100000
theorem fact1 : Rows.parseNamesRow.wf (OpenSpec.ofChange (OpenSpec.ofChange Rows.parseNamesSpec).bare) = true := by kernel_rfl
theorem fact2 : laidOutB Tryz.pinned.checked.prog = true := by kernel_rfl
theorem fact3 : mapsRowed Tryz.pinned.checked.prog = true := by kernel_rfl
theorem fact4 : Tryz.f16.params.all (Tryz.pinned.checked.prog.readableRec ·) = true := by kernel_rfl
theorem fact5 : namedTie Tryz.pinned.checked.prog Rows.parseNamesRow.named (OpenSpec.ofChange Rows.parseNamesSpec).bare.vars = true := by kernel_rfl
end Go.Proofs.YtnfpmiiopiinbaaGreatDoor.parseNames
