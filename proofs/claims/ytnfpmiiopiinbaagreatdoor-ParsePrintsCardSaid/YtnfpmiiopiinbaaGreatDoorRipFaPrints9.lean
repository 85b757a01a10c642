/- Lemmas for the proof: no conditions. -/
import Derived.Test.YtnfpmiiopiinbaaGreatDoorRows
import Derived.WalkKit
import Derived.ProofKit
import Derived.Deep.DeepHandedRow
import Derived.KernelRfl
namespace Go.Proofs.YtnfpmiiopiinbaaGreatDoor.parsePrints
set_option maxRecDepth 100000
theorem fact28:(Tryz.pinned.checked.prog.make == some Rows.parsePrintsRow.make)=true:=by kernel_rfl
theorem fact29:(Rows.parsePrintsRow.kinds == (if Rows.parsePrintsRow.domain.isEmpty then [] else Tryz.f4.params.toList.map fun t=>match Tryz.pinned.checked.prog.underlying t with | some (.int k)=>some k | _=>none))=true:=by kernel_rfl
theorem fact30:(Rows.parsePrintsRow.pinned == Rows.parsePrintsRow.pinnedBy)=true:=by kernel_rfl
theorem fact31:(Rows.parsePrintsRow.veiled == (Tryz.f4.params.toList++(OpenSpec.ofChange Rows.parsePrintsSpec).bare.plain.varTypes Tryz.pinned.checked.prog++Tryz.f4.resultTypes.toList).any (Tryz.pinned.checked.prog.veiledRec ·))=true:=by kernel_rfl
theorem fact32:Rows.parsePrintsRow.veiledFits Tryz.pinned.checked.prog Tryz.f4.params.toList (Tryz.f4.params.toList++(OpenSpec.ofChange Rows.parsePrintsSpec).bare.plain.varTypes Tryz.pinned.checked.prog++Tryz.f4.resultTypes.toList)=true:=by kernel_rfl
end Go.Proofs.YtnfpmiiopiinbaaGreatDoor.parsePrints
