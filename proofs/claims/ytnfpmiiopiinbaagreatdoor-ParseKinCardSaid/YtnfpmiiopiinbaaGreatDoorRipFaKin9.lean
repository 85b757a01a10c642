/- Lemmas for the proof: no conditions. -/
import Derived.Test.YtnfpmiiopiinbaaGreatDoorRows
import Derived.WalkKit
import Derived.ProofKit
import Derived.Deep.DeepHandedRow
import Derived.KernelRfl
namespace Go.Proofs.YtnfpmiiopiinbaaGreatDoor.parseKin
set_option maxRecDepth 100000
theorem fact28 : (Tryz.pinned.checked.prog.make == some Rows.parseKinRow.make) = true := by kernel_rfl
theorem fact29 : (Rows.parseKinRow.kinds == (if Rows.parseKinRow.domain.isEmpty then [] else Tryz.f10.params.toList.map fun t => match Tryz.pinned.checked.prog.underlying t with | some (.int k) => some k | _ => none)) = true := by kernel_rfl
theorem fact30 : (Rows.parseKinRow.pinned == Rows.parseKinRow.pinnedBy) = true := by kernel_rfl
theorem fact31 : (Rows.parseKinRow.veiled == (Tryz.f10.params.toList ++ (OpenSpec.ofChange Rows.parseKinSpec).bare.plain.varTypes Tryz.pinned.checked.prog ++ Tryz.f10.resultTypes.toList).any (Tryz.pinned.checked.prog.veiledRec ·)) = true := by kernel_rfl
theorem fact32 : Rows.parseKinRow.veiledFits Tryz.pinned.checked.prog Tryz.f10.params.toList (Tryz.f10.params.toList ++ (OpenSpec.ofChange Rows.parseKinSpec).bare.plain.varTypes Tryz.pinned.checked.prog ++ Tryz.f10.resultTypes.toList) = true := by kernel_rfl
end Go.Proofs.YtnfpmiiopiinbaaGreatDoor.parseKin
