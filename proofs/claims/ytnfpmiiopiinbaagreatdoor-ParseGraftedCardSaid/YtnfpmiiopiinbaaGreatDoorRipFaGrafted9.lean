/- Lemmas for the proof: no conditions. -/
import Derived.Test.YtnfpmiiopiinbaaGreatDoorRows
import Derived.WalkKit
import Derived.ProofKit
import Derived.Deep.DeepHandedRow
import Derived.KernelRfl
namespace Go.Proofs.YtnfpmiiopiinbaaGreatDoor.parseGrafted
set_option maxRecDepth 100000
theorem fact28 : (Tryz.pinned.checked.prog.make == some Rows.parseGraftedRow.make) = true := by kernel_rfl
theorem fact29 : (Rows.parseGraftedRow.kinds == (if Rows.parseGraftedRow.domain.isEmpty then [] else Tryz.f15.params.toList.map fun t => match Tryz.pinned.checked.prog.underlying t with | some (.int k) => some k | _ => none)) = true := by kernel_rfl
theorem fact30 : (Rows.parseGraftedRow.pinned == Rows.parseGraftedRow.pinnedBy) = true := by kernel_rfl
theorem fact31 : (Rows.parseGraftedRow.veiled == (Tryz.f15.params.toList ++ (OpenSpec.ofChange Rows.parseGraftedSpec).bare.plain.varTypes Tryz.pinned.checked.prog ++ Tryz.f15.resultTypes.toList).any (Tryz.pinned.checked.prog.veiledRec ·)) = true := by kernel_rfl
theorem fact32 : Rows.parseGraftedRow.veiledFits Tryz.pinned.checked.prog Tryz.f15.params.toList (Tryz.f15.params.toList ++ (OpenSpec.ofChange Rows.parseGraftedSpec).bare.plain.varTypes Tryz.pinned.checked.prog ++ Tryz.f15.resultTypes.toList) = true := by kernel_rfl
end Go.Proofs.YtnfpmiiopiinbaaGreatDoor.parseGrafted
