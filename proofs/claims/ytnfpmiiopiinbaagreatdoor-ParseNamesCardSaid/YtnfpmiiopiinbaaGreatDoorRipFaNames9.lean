/- Lemmas for the proof that ParseNames returns true: no conditions. -/
import Derived.Test.YtnfpmiiopiinbaaGreatDoorRows
import Derived.WalkKit
import Derived.ProofKit
import Derived.Deep.DeepHandedRow
import Derived.KernelRfl
/- Closed facts of the row of parseNames. -/
namespace Go.Proofs.YtnfpmiiopiinbaaGreatDoor.parseNames
set_option maxRecDepth 100000
theorem fact28 : (Tryz.pinned.checked.prog.make == some Rows.parseNamesRow.make) = true := by kernel_rfl
theorem fact29 : (Rows.parseNamesRow.kinds == (if Rows.parseNamesRow.domain.isEmpty then [] else Tryz.f16.params.toList.map fun t => match Tryz.pinned.checked.prog.underlying t with | some (.int k) => some k | _ => none)) = true := by kernel_rfl
theorem fact30 : (Rows.parseNamesRow.pinned == Rows.parseNamesRow.pinnedBy) = true := by kernel_rfl
theorem fact31 : (Rows.parseNamesRow.veiled == (Tryz.f16.params.toList ++ (OpenSpec.ofChange Rows.parseNamesSpec).bare.plain.varTypes Tryz.pinned.checked.prog ++ Tryz.f16.resultTypes.toList).any (Tryz.pinned.checked.prog.veiledRec ·)) = true := by kernel_rfl
theorem fact32 : Rows.parseNamesRow.veiledFits Tryz.pinned.checked.prog Tryz.f16.params.toList (Tryz.f16.params.toList ++ (OpenSpec.ofChange Rows.parseNamesSpec).bare.plain.varTypes Tryz.pinned.checked.prog ++ Tryz.f16.resultTypes.toList) = true := by kernel_rfl
end Go.Proofs.YtnfpmiiopiinbaaGreatDoor.parseNames
