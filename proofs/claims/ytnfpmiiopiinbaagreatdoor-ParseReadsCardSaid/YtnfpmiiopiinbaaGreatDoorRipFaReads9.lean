/- Lemmas for the proof: no conditions. -/
import Derived.Test.YtnfpmiiopiinbaaGreatDoorRows
import Derived.WalkKit
import Derived.ProofKit
import Derived.Deep.DeepHandedRow
import Derived.KernelRfl
namespace Go.Proofs.YtnfpmiiopiinbaaGreatDoor.parseReads
set_option maxRecDepth 100000
theorem fact28 : (Tryz.pinned.checked.prog.make == some Rows.parseReadsRow.make) = true := by kernel_rfl
theorem fact29 : (Rows.parseReadsRow.kinds == (if Rows.parseReadsRow.domain.isEmpty then [] else Tryz.f3.params.toList.map fun t => match Tryz.pinned.checked.prog.underlying t with | some (.int k) => some k | _ => none)) = true := by kernel_rfl
theorem fact30 : (Rows.parseReadsRow.pinned == Rows.parseReadsRow.pinnedBy) = true := by kernel_rfl
theorem fact31 : (Rows.parseReadsRow.veiled == (Tryz.f3.params.toList ++ (OpenSpec.ofChange Rows.parseReadsSpec).bare.plain.varTypes Tryz.pinned.checked.prog ++ Tryz.f3.resultTypes.toList).any (Tryz.pinned.checked.prog.veiledRec ·)) = true := by kernel_rfl
theorem fact32 : Rows.parseReadsRow.veiledFits Tryz.pinned.checked.prog Tryz.f3.params.toList (Tryz.f3.params.toList ++ (OpenSpec.ofChange Rows.parseReadsSpec).bare.plain.varTypes Tryz.pinned.checked.prog ++ Tryz.f3.resultTypes.toList) = true := by kernel_rfl
end Go.Proofs.YtnfpmiiopiinbaaGreatDoor.parseReads
