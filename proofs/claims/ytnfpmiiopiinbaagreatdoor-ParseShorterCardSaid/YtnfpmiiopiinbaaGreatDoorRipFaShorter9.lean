/- Lemmas for the proof: no conditions. -/
import Derived.Test.YtnfpmiiopiinbaaGreatDoorRows
import Derived.WalkKit
import Derived.ProofKit
import Derived.Deep.DeepHandedRow
import Derived.KernelRfl
namespace Go.Proofs.YtnfpmiiopiinbaaGreatDoor.parseShorter
set_option maxRecDepth 100000
theorem fact28:(Tryz.pinned.checked.prog.make == some Rows.parseShorterRow.make)=true:=by kernel_rfl
theorem fact29:(Rows.parseShorterRow.kinds == (if Rows.parseShorterRow.domain.isEmpty then [] else Tryz.f6.params.toList.map fun t=>match Tryz.pinned.checked.prog.underlying t with | some (.int k)=>some k | _=>none))=true:=by kernel_rfl
theorem fact30:(Rows.parseShorterRow.pinned == Rows.parseShorterRow.pinnedBy)=true:=by kernel_rfl
theorem fact31:(Rows.parseShorterRow.veiled == (Tryz.f6.params.toList++(OpenSpec.ofChange Rows.parseShorterSpec).bare.plain.varTypes Tryz.pinned.checked.prog++Tryz.f6.resultTypes.toList).any (Tryz.pinned.checked.prog.veiledRec ·))=true:=by kernel_rfl
theorem fact32:Rows.parseShorterRow.veiledFits Tryz.pinned.checked.prog Tryz.f6.params.toList (Tryz.f6.params.toList++(OpenSpec.ofChange Rows.parseShorterSpec).bare.plain.varTypes Tryz.pinned.checked.prog++Tryz.f6.resultTypes.toList)=true:=by kernel_rfl
end Go.Proofs.YtnfpmiiopiinbaaGreatDoor.parseShorter
