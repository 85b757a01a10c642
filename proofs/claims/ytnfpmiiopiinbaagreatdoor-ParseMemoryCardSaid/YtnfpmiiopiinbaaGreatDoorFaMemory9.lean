import Derived.Test.YtnfpmiiopiinbaaGreatDoorRows
import Derived.WalkKit
import Derived.ProofKit
import Derived.Deep.DeepHandedRow
import Derived.KernelRfl
namespace Go.Proofs.YtnfpmiiopiinbaaGreatDoor.parseMemory
set_option maxRecDepth 100000
theorem fact28:(Tryz.pinned.checked.prog.make==some Rows.parseMemoryRow.make)=true:=by kernel_rfl
theorem fact29:(Rows.parseMemoryRow.kinds==(if Rows.parseMemoryRow.domain.isEmpty then [] else Tryz.f5.params.toList.map λ t=>match Tryz.pinned.checked.prog.underlying t with|some (.int k)=>some k|_=>none))=true:=by kernel_rfl
theorem fact30:(Rows.parseMemoryRow.pinned==Rows.parseMemoryRow.pinnedBy)=true:=by kernel_rfl
theorem fact31:(Rows.parseMemoryRow.veiled==(Tryz.f5.params.toList++(OpenSpec.ofChange Rows.parseMemorySpec).bare.plain.varTypes Tryz.pinned.checked.prog++Tryz.f5.resultTypes.toList).any (Tryz.pinned.checked.prog.veiledRec ·))=true:=by kernel_rfl
theorem fact32:Rows.parseMemoryRow.veiledFits Tryz.pinned.checked.prog Tryz.f5.params.toList (Tryz.f5.params.toList++(OpenSpec.ofChange Rows.parseMemorySpec).bare.plain.varTypes Tryz.pinned.checked.prog++Tryz.f5.resultTypes.toList)=true:=by kernel_rfl
end Go.Proofs.YtnfpmiiopiinbaaGreatDoor.parseMemory
