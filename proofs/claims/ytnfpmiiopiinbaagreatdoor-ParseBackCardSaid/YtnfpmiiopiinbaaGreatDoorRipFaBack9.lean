/- Lemmas for the proof: no conditions. -/
import Derived.Test.YtnfpmiiopiinbaaGreatDoorRows
import Derived.WalkKit
import Derived.ProofKit
import Derived.Deep.DeepHandedRow
import Derived.KernelRfl
namespace Go.Proofs.YtnfpmiiopiinbaaGreatDoor.parseBack
set_option maxRecDepth 100000
theorem fact28:(Tryz.pinned.checked.prog.make == some Rows.parseBackRow.make)=true:=by kernel_rfl
theorem fact29:(Rows.parseBackRow.kinds == (if Rows.parseBackRow.domain.isEmpty then [] else Tryz.f8.params.toList.map fun t=>match Tryz.pinned.checked.prog.underlying t with | some (.int k)=>some k | _=>none))=true:=by kernel_rfl
theorem fact30:(Rows.parseBackRow.pinned == Rows.parseBackRow.pinnedBy)=true:=by kernel_rfl
theorem fact31:(Rows.parseBackRow.veiled == (Tryz.f8.params.toList++(OpenSpec.ofChange Rows.parseBackSpec).bare.plain.varTypes Tryz.pinned.checked.prog++Tryz.f8.resultTypes.toList).any (Tryz.pinned.checked.prog.veiledRec ·))=true:=by kernel_rfl
theorem fact32:Rows.parseBackRow.veiledFits Tryz.pinned.checked.prog Tryz.f8.params.toList (Tryz.f8.params.toList++(OpenSpec.ofChange Rows.parseBackSpec).bare.plain.varTypes Tryz.pinned.checked.prog++Tryz.f8.resultTypes.toList)=true:=by kernel_rfl
end Go.Proofs.YtnfpmiiopiinbaaGreatDoor.parseBack
