/- Lemmas for the proof: no conditions. -/
import Derived.Test.YtnfpmiiopiinbaaGreatDoorRows
import Derived.WalkKit
import Derived.ProofKit
import Derived.Deep.DeepHandedRow
import Derived.KernelRfl
namespace Go.Proofs.YtnfpmiiopiinbaaGreatDoor.parseGrafts
set_option maxRecDepth 100000
theorem fact28 : (Tryz.pinned.checked.prog.make == some Rows.parseGraftsRow.make) = true := by kernel_rfl
theorem fact29 : (Rows.parseGraftsRow.kinds == (if Rows.parseGraftsRow.domain.isEmpty then [] else Tryz.f14.params.toList.map fun t => match Tryz.pinned.checked.prog.underlying t with | some (.int k) => some k | _ => none)) = true := by kernel_rfl
theorem fact30 : (Rows.parseGraftsRow.pinned == Rows.parseGraftsRow.pinnedBy) = true := by kernel_rfl
theorem fact31 : (Rows.parseGraftsRow.veiled == (Tryz.f14.params.toList ++ (OpenSpec.ofChange Rows.parseGraftsSpec).bare.plain.varTypes Tryz.pinned.checked.prog ++ Tryz.f14.resultTypes.toList).any (Tryz.pinned.checked.prog.veiledRec ·)) = true := by kernel_rfl
theorem fact32 : Rows.parseGraftsRow.veiledFits Tryz.pinned.checked.prog Tryz.f14.params.toList (Tryz.f14.params.toList ++ (OpenSpec.ofChange Rows.parseGraftsSpec).bare.plain.varTypes Tryz.pinned.checked.prog ++ Tryz.f14.resultTypes.toList) = true := by kernel_rfl
end Go.Proofs.YtnfpmiiopiinbaaGreatDoor.parseGrafts
