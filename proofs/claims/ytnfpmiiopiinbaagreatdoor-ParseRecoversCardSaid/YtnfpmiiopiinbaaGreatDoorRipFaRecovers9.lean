/- Lemmas for the proof: no conditions. -/
import Derived.Test.YtnfpmiiopiinbaaGreatDoorRows
import Derived.WalkKit
import Derived.ProofKit
import Derived.Deep.DeepHandedRow
import Derived.KernelRfl
namespace Go.Proofs.YtnfpmiiopiinbaaGreatDoor.parseRecovers
set_option maxRecDepth 100000
theorem fact28:(Tryz.pinned.checked.prog.make==some Rows.parseRecoversRow.make)=true:=by kernel_rfl
theorem fact29:(Rows.parseRecoversRow.kinds==(if Rows.parseRecoversRow.domain.isEmpty then [] else Tryz.f7.params.toList.map λ t=>match Tryz.pinned.checked.prog.underlying t with|some (.int k)=>some k|_=>none))=true:=by kernel_rfl
theorem fact30:(Rows.parseRecoversRow.pinned==Rows.parseRecoversRow.pinnedBy)=true:=by kernel_rfl
theorem fact31:(Rows.parseRecoversRow.veiled==(Tryz.f7.params.toList++(OpenSpec.ofChange Rows.parseRecoversSpec).bare.plain.varTypes Tryz.pinned.checked.prog++Tryz.f7.resultTypes.toList).any (Tryz.pinned.checked.prog.veiledRec ·))=true:=by kernel_rfl
theorem fact32:Rows.parseRecoversRow.veiledFits Tryz.pinned.checked.prog Tryz.f7.params.toList (Tryz.f7.params.toList++(OpenSpec.ofChange Rows.parseRecoversSpec).bare.plain.varTypes Tryz.pinned.checked.prog++Tryz.f7.resultTypes.toList)=true:=by kernel_rfl
end Go.Proofs.YtnfpmiiopiinbaaGreatDoor.parseRecovers
