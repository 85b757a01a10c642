/- Lemmas for the proof: no conditions. -/
import Derived.Test.YtnfpmiiopiinbaaGreatDoorRows
import Derived.WalkKit
import Derived.ProofKit
import Derived.Deep.DeepHandedRow
import Derived.KernelRfl
import Derived.Test.YtnfpmiiopiinbaaGreatDoorRipFaShorter0
import Derived.Test.YtnfpmiiopiinbaaGreatDoorRipFaShorter1
import Derived.Test.YtnfpmiiopiinbaaGreatDoorRipFaShorter2
import Derived.Test.YtnfpmiiopiinbaaGreatDoorRipFaShorter3
import Derived.Test.YtnfpmiiopiinbaaGreatDoorRipFaShorter4
import Derived.Test.YtnfpmiiopiinbaaGreatDoorRipFaShorter6
import Derived.Test.YtnfpmiiopiinbaaGreatDoorRipFaShorter7
import Derived.Test.YtnfpmiiopiinbaaGreatDoorRipFaShorter8
import Derived.Test.YtnfpmiiopiinbaaGreatDoorRipFaShorter9
namespace Go.Proofs.YtnfpmiiopiinbaaGreatDoor.parseShorter
set_option maxRecDepth 100000
theorem fact6:(Rows.parseShorterRow.stops == [])=true:=by kernel_rfl
theorem fact7:(Tryz.pinned.checked.prog.stops == [])=true:=by kernel_rfl
theorem fact8:(Rows.parseShorterRow.knobs == [])=true:=by kernel_rfl
theorem fact9:(Tryz.pinned.checked.prog.stopKnobs == [])=true:=by kernel_rfl
theorem fact14:(Rows.parseShorterRow.maps == (Tryz.f6.params.toList++(OpenSpec.ofChange Rows.parseShorterSpec).bare.plain.varTypes Tryz.pinned.checked.prog).any (Tryz.pinned.checked.prog.mapsRec ·))=true:=by kernel_rfl
theorem fact15:(Rows.parseShorterRow.ifaces == (Tryz.f6.params.toList++(OpenSpec.ofChange Rows.parseShorterSpec).bare.plain.varTypes Tryz.pinned.checked.prog).any (Tryz.pinned.checked.prog.ifacesRec ·))=true:=by kernel_rfl
theorem fact16:(Rows.parseShorterRow.mapsOut == Tryz.pinned.checked.prog.mapsAmong Tryz.f6.resultTypes.toList)=true:=by kernel_rfl
theorem fact17:(Rows.parseShorterRow.loops == (Tryz.f6.params.toList++(OpenSpec.ofChange Rows.parseShorterSpec).bare.plain.varTypes Tryz.pinned.checked.prog).any (Tryz.pinned.checked.prog.loopsFrom ·))=true:=by kernel_rfl
theorem fact18:(Rows.parseShorterRow.wideKeys == (Tryz.f6.params.toList++(OpenSpec.ofChange Rows.parseShorterSpec).bare.plain.varTypes Tryz.pinned.checked.prog++Tryz.f6.resultTypes.toList).any (Tryz.pinned.checked.prog.wideKeysFrom ·))=true:=by kernel_rfl
theorem fact19:(OpenSpec.ofChange Rows.parseShorterSpec).bare.vars.all (Tryz.pinned.checked.prog.varReadable ·)=true:=by kernel_rfl
theorem fact20:Tryz.f6.resultTypes.all (fun t=>Tryz.pinned.checked.prog.readableRec t && decide (t < Tryz.pinned.checked.prog.types.size))=true:=by kernel_rfl
theorem fact21:(Rows.parseShorterRow.ifacesOut == Tryz.f6.resultTypes.toList.any (Tryz.pinned.checked.prog.ifacesRec ·))=true:=by kernel_rfl
theorem fact22:(Rows.parseShorterRow.loopsOut == Tryz.f6.resultTypes.toList.any (Tryz.pinned.checked.prog.loopsFrom ·))=true:=by kernel_rfl
theorem fact23:(Rows.parseShorterRow.plainKeys == Tryz.pinned.checked.prog.plainKeys)=true:=by kernel_rfl
theorem fact24:Rows.parseShorterRow.shortTexts.isNone=true:=by kernel_rfl
end Go.Proofs.YtnfpmiiopiinbaaGreatDoor.parseShorter
namespace Go.Proofs.YtnfpmiiopiinbaaGreatDoor.parseShorter
set_option maxRecDepth 100000
theorem facts:joinedFacts Tryz.pinned.checked.prog 6 Tryz.f6 (OpenSpec.ofChange Rows.parseShorterSpec).bare Rows.parseShorterRow=true:=by
 unfold joinedFacts
 simp only [Bool.and_eq_true]
 exact ⟨⟨⟨⟨⟨⟨⟨⟨⟨⟨⟨⟨⟨⟨⟨⟨⟨⟨⟨⟨⟨⟨⟨⟨⟨⟨⟨⟨⟨⟨⟨fact1,fact2⟩,fact3⟩,fact4⟩,fact5⟩,fact6⟩,fact7⟩,fact8⟩,fact9⟩,fact10⟩,fact11⟩,fact12⟩,fact13⟩,fact14⟩,fact15⟩,fact16⟩,fact17⟩,fact18⟩,fact19⟩,fact20⟩,fact21⟩,fact22⟩,fact23⟩,fact24⟩,fact25⟩,fact26⟩,fact27⟩,fact28⟩,fact29⟩,fact30⟩,fact31⟩,fact32⟩
end Go.Proofs.YtnfpmiiopiinbaaGreatDoor.parseShorter
