/- Lemmas for the proof: no conditions. -/
import Derived.Test.YtnfpmiiopiinbaaGreatDoorRows
import Derived.WalkKit
import Derived.ProofKit
import Derived.Deep.DeepHandedRow
import Derived.KernelRfl
import Derived.Test.YtnfpmiiopiinbaaGreatDoorRipFaBrackets0
import Derived.Test.YtnfpmiiopiinbaaGreatDoorRipFaBrackets1
import Derived.Test.YtnfpmiiopiinbaaGreatDoorRipFaBrackets2
import Derived.Test.YtnfpmiiopiinbaaGreatDoorRipFaBrackets3
import Derived.Test.YtnfpmiiopiinbaaGreatDoorRipFaBrackets4
import Derived.Test.YtnfpmiiopiinbaaGreatDoorRipFaBrackets6
import Derived.Test.YtnfpmiiopiinbaaGreatDoorRipFaBrackets7
import Derived.Test.YtnfpmiiopiinbaaGreatDoorRipFaBrackets8
import Derived.Test.YtnfpmiiopiinbaaGreatDoorRipFaBrackets9
namespace Go.Proofs.YtnfpmiiopiinbaaGreatDoor.parseBrackets
set_option maxRecDepth 100000
theorem fact6:(Rows.parseBracketsRow.stops==[])=true:=by kernel_rfl
theorem fact7:(Tryz.pinned.checked.prog.stops==[])=true:=by kernel_rfl
theorem fact8:(Rows.parseBracketsRow.knobs==[])=true:=by kernel_rfl
theorem fact9:(Tryz.pinned.checked.prog.stopKnobs==[])=true:=by kernel_rfl
theorem fact14:(Rows.parseBracketsRow.maps==(Tryz.f13.params.toList++(OpenSpec.ofChange Rows.parseBracketsSpec).bare.plain.varTypes Tryz.pinned.checked.prog).any (Tryz.pinned.checked.prog.mapsRec ·))=true:=by kernel_rfl
theorem fact15:(Rows.parseBracketsRow.ifaces==(Tryz.f13.params.toList++(OpenSpec.ofChange Rows.parseBracketsSpec).bare.plain.varTypes Tryz.pinned.checked.prog).any (Tryz.pinned.checked.prog.ifacesRec ·))=true:=by kernel_rfl
theorem fact16:(Rows.parseBracketsRow.mapsOut==Tryz.pinned.checked.prog.mapsAmong Tryz.f13.resultTypes.toList)=true:=by kernel_rfl
theorem fact17:(Rows.parseBracketsRow.loops==(Tryz.f13.params.toList++(OpenSpec.ofChange Rows.parseBracketsSpec).bare.plain.varTypes Tryz.pinned.checked.prog).any (Tryz.pinned.checked.prog.loopsFrom ·))=true:=by kernel_rfl
theorem fact18:(Rows.parseBracketsRow.wideKeys==(Tryz.f13.params.toList++(OpenSpec.ofChange Rows.parseBracketsSpec).bare.plain.varTypes Tryz.pinned.checked.prog++Tryz.f13.resultTypes.toList).any (Tryz.pinned.checked.prog.wideKeysFrom ·))=true:=by kernel_rfl
theorem fact19:(OpenSpec.ofChange Rows.parseBracketsSpec).bare.vars.all (Tryz.pinned.checked.prog.varReadable ·)=true:=by kernel_rfl
theorem fact20:Tryz.f13.resultTypes.all (λ t=>Tryz.pinned.checked.prog.readableRec t&&decide (t<Tryz.pinned.checked.prog.types.size))=true:=by kernel_rfl
theorem fact21:(Rows.parseBracketsRow.ifacesOut==Tryz.f13.resultTypes.toList.any (Tryz.pinned.checked.prog.ifacesRec ·))=true:=by kernel_rfl
theorem fact22:(Rows.parseBracketsRow.loopsOut==Tryz.f13.resultTypes.toList.any (Tryz.pinned.checked.prog.loopsFrom ·))=true:=by kernel_rfl
theorem fact23:(Rows.parseBracketsRow.plainKeys==Tryz.pinned.checked.prog.plainKeys)=true:=by kernel_rfl
theorem fact24:Rows.parseBracketsRow.shortTexts.isNone=true:=by kernel_rfl
end Go.Proofs.YtnfpmiiopiinbaaGreatDoor.parseBrackets
namespace Go.Proofs.YtnfpmiiopiinbaaGreatDoor.parseBrackets
set_option maxRecDepth 100000
theorem facts:joinedFacts Tryz.pinned.checked.prog 13 Tryz.f13 (OpenSpec.ofChange Rows.parseBracketsSpec).bare Rows.parseBracketsRow=true:=by
 unfold joinedFacts;simp only[Bool.and_eq_true];exact⟨⟨⟨⟨⟨⟨⟨⟨⟨⟨⟨⟨⟨⟨⟨⟨⟨⟨⟨⟨⟨⟨⟨⟨⟨⟨⟨⟨⟨⟨⟨fact1,fact2⟩,fact3⟩,fact4⟩,fact5⟩,fact6⟩,fact7⟩,fact8⟩,fact9⟩,fact10⟩,fact11⟩,fact12⟩,fact13⟩,fact14⟩,fact15⟩,fact16⟩,fact17⟩,fact18⟩,fact19⟩,fact20⟩,fact21⟩,fact22⟩,fact23⟩,fact24⟩,fact25⟩,fact26⟩,fact27⟩,fact28⟩,fact29⟩,fact30⟩,fact31⟩,fact32⟩
end Go.Proofs.YtnfpmiiopiinbaaGreatDoor.parseBrackets
