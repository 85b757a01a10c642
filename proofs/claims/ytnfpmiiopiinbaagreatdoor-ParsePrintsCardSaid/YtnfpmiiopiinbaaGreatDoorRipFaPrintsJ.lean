/- Lemmas for the proof: no conditions. -/
import Derived.Test.YtnfpmiiopiinbaaGreatDoorRows
import Derived.WalkKit
import Derived.ProofKit
import Derived.Deep.DeepHandedRow
import Derived.KernelRfl
import Derived.Test.YtnfpmiiopiinbaaGreatDoorRipFaPrints0
import Derived.Test.YtnfpmiiopiinbaaGreatDoorRipFaPrints1
import Derived.Test.YtnfpmiiopiinbaaGreatDoorRipFaPrints2
import Derived.Test.YtnfpmiiopiinbaaGreatDoorRipFaPrints3
import Derived.Test.YtnfpmiiopiinbaaGreatDoorRipFaPrints4
import Derived.Test.YtnfpmiiopiinbaaGreatDoorRipFaPrints6
import Derived.Test.YtnfpmiiopiinbaaGreatDoorRipFaPrints7
import Derived.Test.YtnfpmiiopiinbaaGreatDoorRipFaPrints8
import Derived.Test.YtnfpmiiopiinbaaGreatDoorRipFaPrints9
namespace Go.Proofs.YtnfpmiiopiinbaaGreatDoor.parsePrints
set_option maxRecDepth 100000
theorem fact6:(Rows.parsePrintsRow.stops == [])=true:=by kernel_rfl
theorem fact7:(Tryz.pinned.checked.prog.stops == [])=true:=by kernel_rfl
theorem fact8:(Rows.parsePrintsRow.knobs == [])=true:=by kernel_rfl
theorem fact9:(Tryz.pinned.checked.prog.stopKnobs == [])=true:=by kernel_rfl
theorem fact14:(Rows.parsePrintsRow.maps == (Tryz.f4.params.toList++(OpenSpec.ofChange Rows.parsePrintsSpec).bare.plain.varTypes Tryz.pinned.checked.prog).any (Tryz.pinned.checked.prog.mapsRec ·))=true:=by kernel_rfl
theorem fact15:(Rows.parsePrintsRow.ifaces == (Tryz.f4.params.toList++(OpenSpec.ofChange Rows.parsePrintsSpec).bare.plain.varTypes Tryz.pinned.checked.prog).any (Tryz.pinned.checked.prog.ifacesRec ·))=true:=by kernel_rfl
theorem fact16:(Rows.parsePrintsRow.mapsOut == Tryz.pinned.checked.prog.mapsAmong Tryz.f4.resultTypes.toList)=true:=by kernel_rfl
theorem fact17:(Rows.parsePrintsRow.loops == (Tryz.f4.params.toList++(OpenSpec.ofChange Rows.parsePrintsSpec).bare.plain.varTypes Tryz.pinned.checked.prog).any (Tryz.pinned.checked.prog.loopsFrom ·))=true:=by kernel_rfl
theorem fact18:(Rows.parsePrintsRow.wideKeys == (Tryz.f4.params.toList++(OpenSpec.ofChange Rows.parsePrintsSpec).bare.plain.varTypes Tryz.pinned.checked.prog++Tryz.f4.resultTypes.toList).any (Tryz.pinned.checked.prog.wideKeysFrom ·))=true:=by kernel_rfl
theorem fact19:(OpenSpec.ofChange Rows.parsePrintsSpec).bare.vars.all (Tryz.pinned.checked.prog.varReadable ·)=true:=by kernel_rfl
theorem fact20:Tryz.f4.resultTypes.all (fun t=>Tryz.pinned.checked.prog.readableRec t && decide (t < Tryz.pinned.checked.prog.types.size))=true:=by kernel_rfl
theorem fact21:(Rows.parsePrintsRow.ifacesOut == Tryz.f4.resultTypes.toList.any (Tryz.pinned.checked.prog.ifacesRec ·))=true:=by kernel_rfl
theorem fact22:(Rows.parsePrintsRow.loopsOut == Tryz.f4.resultTypes.toList.any (Tryz.pinned.checked.prog.loopsFrom ·))=true:=by kernel_rfl
theorem fact23:(Rows.parsePrintsRow.plainKeys == Tryz.pinned.checked.prog.plainKeys)=true:=by kernel_rfl
theorem fact24:Rows.parsePrintsRow.shortTexts.isNone=true:=by kernel_rfl
end Go.Proofs.YtnfpmiiopiinbaaGreatDoor.parsePrints
namespace Go.Proofs.YtnfpmiiopiinbaaGreatDoor.parsePrints
set_option maxRecDepth 100000
theorem facts:joinedFacts Tryz.pinned.checked.prog 4 Tryz.f4 (OpenSpec.ofChange Rows.parsePrintsSpec).bare Rows.parsePrintsRow=true:=by
 unfold joinedFacts
 simp only [Bool.and_eq_true]
 exact ⟨⟨⟨⟨⟨⟨⟨⟨⟨⟨⟨⟨⟨⟨⟨⟨⟨⟨⟨⟨⟨⟨⟨⟨⟨⟨⟨⟨⟨⟨⟨fact1,fact2⟩,fact3⟩,fact4⟩,fact5⟩,fact6⟩,fact7⟩,fact8⟩,fact9⟩,fact10⟩,fact11⟩,fact12⟩,fact13⟩,fact14⟩,fact15⟩,fact16⟩,fact17⟩,fact18⟩,fact19⟩,fact20⟩,fact21⟩,fact22⟩,fact23⟩,fact24⟩,fact25⟩,fact26⟩,fact27⟩,fact28⟩,fact29⟩,fact30⟩,fact31⟩,fact32⟩
end Go.Proofs.YtnfpmiiopiinbaaGreatDoor.parsePrints
