/- Lemmas for the proof: no conditions. -/
import Derived.Test.YtnfpmiiopiinbaaGreatDoorRows
import Derived.WalkKit
import Derived.ProofKit
import Derived.Deep.DeepHandedRow
import Derived.KernelRfl
namespace Go.Proofs.YtnfpmiiopiinbaaGreatDoor.parseItems
set_option maxRecDepth 100000
theorem fact28:(Tryz.pinned.checked.prog.make == some Rows.parseItemsRow.make)=true:=by kernel_rfl
theorem fact29:(Rows.parseItemsRow.kinds == (if Rows.parseItemsRow.domain.isEmpty then [] else Tryz.f9.params.toList.map fun t=>match Tryz.pinned.checked.prog.underlying t with | some (.int k)=>some k | _=>none))=true:=by kernel_rfl
theorem fact30:(Rows.parseItemsRow.pinned == Rows.parseItemsRow.pinnedBy)=true:=by kernel_rfl
theorem fact31:(Rows.parseItemsRow.veiled == (Tryz.f9.params.toList++(OpenSpec.ofChange Rows.parseItemsSpec).bare.plain.varTypes Tryz.pinned.checked.prog++Tryz.f9.resultTypes.toList).any (Tryz.pinned.checked.prog.veiledRec ·))=true:=by kernel_rfl
theorem fact32:Rows.parseItemsRow.veiledFits Tryz.pinned.checked.prog Tryz.f9.params.toList (Tryz.f9.params.toList++(OpenSpec.ofChange Rows.parseItemsSpec).bare.plain.varTypes Tryz.pinned.checked.prog++Tryz.f9.resultTypes.toList)=true:=by kernel_rfl
end Go.Proofs.YtnfpmiiopiinbaaGreatDoor.parseItems
