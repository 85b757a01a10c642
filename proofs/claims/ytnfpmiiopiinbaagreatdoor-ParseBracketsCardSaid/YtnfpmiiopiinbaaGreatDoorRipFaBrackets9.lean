/- Lemmas for the proof: no conditions. -/
import Derived.Test.YtnfpmiiopiinbaaGreatDoorRows
import Derived.WalkKit
import Derived.ProofKit
import Derived.Deep.DeepHandedRow
import Derived.KernelRfl
namespace Go.Proofs.YtnfpmiiopiinbaaGreatDoor.parseBrackets
set_option maxRecDepth 100000
theorem fact28:(Tryz.pinned.checked.prog.make==some Rows.parseBracketsRow.make)=true:=by kernel_rfl
theorem fact29:(Rows.parseBracketsRow.kinds==(if Rows.parseBracketsRow.domain.isEmpty then [] else Tryz.f13.params.toList.map λ t=>match Tryz.pinned.checked.prog.underlying t with|some (.int k)=>some k|_=>none))=true:=by kernel_rfl
theorem fact30:(Rows.parseBracketsRow.pinned==Rows.parseBracketsRow.pinnedBy)=true:=by kernel_rfl
theorem fact31:(Rows.parseBracketsRow.veiled==(Tryz.f13.params.toList++(OpenSpec.ofChange Rows.parseBracketsSpec).bare.plain.varTypes Tryz.pinned.checked.prog++Tryz.f13.resultTypes.toList).any (Tryz.pinned.checked.prog.veiledRec ·))=true:=by kernel_rfl
theorem fact32:Rows.parseBracketsRow.veiledFits Tryz.pinned.checked.prog Tryz.f13.params.toList (Tryz.f13.params.toList++(OpenSpec.ofChange Rows.parseBracketsSpec).bare.plain.varTypes Tryz.pinned.checked.prog++Tryz.f13.resultTypes.toList)=true:=by kernel_rfl
end Go.Proofs.YtnfpmiiopiinbaaGreatDoor.parseBrackets
