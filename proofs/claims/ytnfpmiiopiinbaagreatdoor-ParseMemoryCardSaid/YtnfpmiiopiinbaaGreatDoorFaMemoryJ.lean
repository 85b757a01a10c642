import Derived.Test.YtnfpmiiopiinbaaGreatDoorFaMemory0
import Derived.Test.YtnfpmiiopiinbaaGreatDoorFaMemory1
import Derived.Test.YtnfpmiiopiinbaaGreatDoorFaMemory2
import Derived.Test.YtnfpmiiopiinbaaGreatDoorFaMemory3
import Derived.Test.YtnfpmiiopiinbaaGreatDoorFaMemory4
import Derived.Test.YtnfpmiiopiinbaaGreatDoorFaMemory6
import Derived.Test.YtnfpmiiopiinbaaGreatDoorFaMemory7
import Derived.Test.YtnfpmiiopiinbaaGreatDoorFaMemory8
import Derived.Test.YtnfpmiiopiinbaaGreatDoorFaMemory9
namespace Go.Proofs.YtnfpmiiopiinbaaGreatDoor.parseMemory
set_option maxRecDepth 100000
theorem fact6:(Rows.parseMemoryRow.stops==[])=true:=by kernel_rfl
theorem fact7:(Tryz.pinned.checked.prog.stops==[])=true:=by kernel_rfl
theorem fact8:(Rows.parseMemoryRow.knobs==[])=true:=by kernel_rfl
theorem fact9:(Tryz.pinned.checked.prog.stopKnobs==[])=true:=by kernel_rfl
theorem fact14:(Rows.parseMemoryRow.maps==(Tryz.f5.params.toList++(OpenSpec.ofChange Rows.parseMemorySpec).bare.plain.varTypes Tryz.pinned.checked.prog).any (Tryz.pinned.checked.prog.mapsRec ·))=true:=by kernel_rfl
theorem fact15:(Rows.parseMemoryRow.ifaces==(Tryz.f5.params.toList++(OpenSpec.ofChange Rows.parseMemorySpec).bare.plain.varTypes Tryz.pinned.checked.prog).any (Tryz.pinned.checked.prog.ifacesRec ·))=true:=by kernel_rfl
theorem fact16:(Rows.parseMemoryRow.mapsOut==Tryz.pinned.checked.prog.mapsAmong Tryz.f5.resultTypes.toList)=true:=by kernel_rfl
theorem fact17:(Rows.parseMemoryRow.loops==(Tryz.f5.params.toList++(OpenSpec.ofChange Rows.parseMemorySpec).bare.plain.varTypes Tryz.pinned.checked.prog).any (Tryz.pinned.checked.prog.loopsFrom ·))=true:=by kernel_rfl
theorem fact18:(Rows.parseMemoryRow.wideKeys==(Tryz.f5.params.toList++(OpenSpec.ofChange Rows.parseMemorySpec).bare.plain.varTypes Tryz.pinned.checked.prog++Tryz.f5.resultTypes.toList).any (Tryz.pinned.checked.prog.wideKeysFrom ·))=true:=by kernel_rfl
theorem fact19:(OpenSpec.ofChange Rows.parseMemorySpec).bare.vars.all (Tryz.pinned.checked.prog.varReadable ·)=true:=by kernel_rfl
theorem fact20:Tryz.f5.resultTypes.all (λ t=>Tryz.pinned.checked.prog.readableRec t&&decide (t<Tryz.pinned.checked.prog.types.size))=true:=by kernel_rfl
theorem fact21:(Rows.parseMemoryRow.ifacesOut==Tryz.f5.resultTypes.toList.any (Tryz.pinned.checked.prog.ifacesRec ·))=true:=by kernel_rfl
theorem fact22:(Rows.parseMemoryRow.loopsOut==Tryz.f5.resultTypes.toList.any (Tryz.pinned.checked.prog.loopsFrom ·))=true:=by kernel_rfl
theorem fact23:(Rows.parseMemoryRow.plainKeys==Tryz.pinned.checked.prog.plainKeys)=true:=by kernel_rfl
theorem fact24:Rows.parseMemoryRow.shortTexts.isNone=true:=by kernel_rfl
end Go.Proofs.YtnfpmiiopiinbaaGreatDoor.parseMemory
namespace Go.Proofs.YtnfpmiiopiinbaaGreatDoor.parseMemory
set_option maxRecDepth 100000
theorem facts:joinedFacts Tryz.pinned.checked.prog 5 Tryz.f5 (OpenSpec.ofChange Rows.parseMemorySpec).bare Rows.parseMemoryRow=true:=by
 unfold joinedFacts;simp only[Bool.and_eq_true];exact⟨⟨⟨⟨⟨⟨⟨⟨⟨⟨⟨⟨⟨⟨⟨⟨⟨⟨⟨⟨⟨⟨⟨⟨⟨⟨⟨⟨⟨⟨⟨fact1,fact2⟩,fact3⟩,fact4⟩,fact5⟩,fact6⟩,fact7⟩,fact8⟩,fact9⟩,fact10⟩,fact11⟩,fact12⟩,fact13⟩,fact14⟩,fact15⟩,fact16⟩,fact17⟩,fact18⟩,fact19⟩,fact20⟩,fact21⟩,fact22⟩,fact23⟩,fact24⟩,fact25⟩,fact26⟩,fact27⟩,fact28⟩,fact29⟩,fact30⟩,fact31⟩,fact32⟩
end Go.Proofs.YtnfpmiiopiinbaaGreatDoor.parseMemory
