/- Lemmas for the proof: no conditions. -/
import Derived.Test.YtnfpmiiopiinbaaGreatDoorRows
import Derived.WalkKit
import Derived.ProofKit
import Derived.Deep.DeepHandedRow
import Derived.KernelRfl
import Derived.Test.YtnfpmiiopiinbaaGreatDoorRipFaRecovers0
import Derived.Test.YtnfpmiiopiinbaaGreatDoorRipFaRecovers1
import Derived.Test.YtnfpmiiopiinbaaGreatDoorRipFaRecovers2
import Derived.Test.YtnfpmiiopiinbaaGreatDoorRipFaRecovers3
import Derived.Test.YtnfpmiiopiinbaaGreatDoorRipFaRecovers4
import Derived.Test.YtnfpmiiopiinbaaGreatDoorRipFaRecovers6
import Derived.Test.YtnfpmiiopiinbaaGreatDoorRipFaRecovers7
import Derived.Test.YtnfpmiiopiinbaaGreatDoorRipFaRecovers8
import Derived.Test.YtnfpmiiopiinbaaGreatDoorRipFaRecovers9
namespace Go.Proofs.YtnfpmiiopiinbaaGreatDoor.parseRecovers
set_option maxRecDepth 100000
theorem fact6:(Rows.parseRecoversRow.stops==[])=true:=by kernel_rfl
theorem fact7:(Tryz.pinned.checked.prog.stops==[])=true:=by kernel_rfl
theorem fact8:(Rows.parseRecoversRow.knobs==[])=true:=by kernel_rfl
theorem fact9:(Tryz.pinned.checked.prog.stopKnobs==[])=true:=by kernel_rfl
theorem fact14:(Rows.parseRecoversRow.maps==(Tryz.f7.params.toList++(OpenSpec.ofChange Rows.parseRecoversSpec).bare.plain.varTypes Tryz.pinned.checked.prog).any (Tryz.pinned.checked.prog.mapsRec ·))=true:=by kernel_rfl
theorem fact15:(Rows.parseRecoversRow.ifaces==(Tryz.f7.params.toList++(OpenSpec.ofChange Rows.parseRecoversSpec).bare.plain.varTypes Tryz.pinned.checked.prog).any (Tryz.pinned.checked.prog.ifacesRec ·))=true:=by kernel_rfl
theorem fact16:(Rows.parseRecoversRow.mapsOut==Tryz.pinned.checked.prog.mapsAmong Tryz.f7.resultTypes.toList)=true:=by kernel_rfl
theorem fact17:(Rows.parseRecoversRow.loops==(Tryz.f7.params.toList++(OpenSpec.ofChange Rows.parseRecoversSpec).bare.plain.varTypes Tryz.pinned.checked.prog).any (Tryz.pinned.checked.prog.loopsFrom ·))=true:=by kernel_rfl
theorem fact18:(Rows.parseRecoversRow.wideKeys==(Tryz.f7.params.toList++(OpenSpec.ofChange Rows.parseRecoversSpec).bare.plain.varTypes Tryz.pinned.checked.prog++Tryz.f7.resultTypes.toList).any (Tryz.pinned.checked.prog.wideKeysFrom ·))=true:=by kernel_rfl
theorem fact19:(OpenSpec.ofChange Rows.parseRecoversSpec).bare.vars.all (Tryz.pinned.checked.prog.varReadable ·)=true:=by kernel_rfl
theorem fact20:Tryz.f7.resultTypes.all (λ t=>Tryz.pinned.checked.prog.readableRec t&&decide (t<Tryz.pinned.checked.prog.types.size))=true:=by kernel_rfl
theorem fact21:(Rows.parseRecoversRow.ifacesOut==Tryz.f7.resultTypes.toList.any (Tryz.pinned.checked.prog.ifacesRec ·))=true:=by kernel_rfl
theorem fact22:(Rows.parseRecoversRow.loopsOut==Tryz.f7.resultTypes.toList.any (Tryz.pinned.checked.prog.loopsFrom ·))=true:=by kernel_rfl
theorem fact23:(Rows.parseRecoversRow.plainKeys==Tryz.pinned.checked.prog.plainKeys)=true:=by kernel_rfl
theorem fact24:Rows.parseRecoversRow.shortTexts.isNone=true:=by kernel_rfl
end Go.Proofs.YtnfpmiiopiinbaaGreatDoor.parseRecovers
namespace Go.Proofs.YtnfpmiiopiinbaaGreatDoor.parseRecovers
set_option maxRecDepth 100000
theorem facts:joinedFacts Tryz.pinned.checked.prog 7 Tryz.f7 (OpenSpec.ofChange Rows.parseRecoversSpec).bare Rows.parseRecoversRow=true:=by
 unfold joinedFacts;simp only[Bool.and_eq_true];exact⟨⟨⟨⟨⟨⟨⟨⟨⟨⟨⟨⟨⟨⟨⟨⟨⟨⟨⟨⟨⟨⟨⟨⟨⟨⟨⟨⟨⟨⟨⟨fact1,fact2⟩,fact3⟩,fact4⟩,fact5⟩,fact6⟩,fact7⟩,fact8⟩,fact9⟩,fact10⟩,fact11⟩,fact12⟩,fact13⟩,fact14⟩,fact15⟩,fact16⟩,fact17⟩,fact18⟩,fact19⟩,fact20⟩,fact21⟩,fact22⟩,fact23⟩,fact24⟩,fact25⟩,fact26⟩,fact27⟩,fact28⟩,fact29⟩,fact30⟩,fact31⟩,fact32⟩
end Go.Proofs.YtnfpmiiopiinbaaGreatDoor.parseRecovers
