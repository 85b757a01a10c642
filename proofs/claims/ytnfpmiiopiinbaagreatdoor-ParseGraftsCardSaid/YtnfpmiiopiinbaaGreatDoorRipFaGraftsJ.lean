/- Lemmas for the proof: no conditions. -/
import Derived.Test.YtnfpmiiopiinbaaGreatDoorRows
import Derived.WalkKit
import Derived.ProofKit
import Derived.Deep.DeepHandedRow
import Derived.KernelRfl
import Derived.Test.YtnfpmiiopiinbaaGreatDoorRipFaGrafts0
import Derived.Test.YtnfpmiiopiinbaaGreatDoorRipFaGrafts1
import Derived.Test.YtnfpmiiopiinbaaGreatDoorRipFaGrafts2
import Derived.Test.YtnfpmiiopiinbaaGreatDoorRipFaGrafts3
import Derived.Test.YtnfpmiiopiinbaaGreatDoorRipFaGrafts4
import Derived.Test.YtnfpmiiopiinbaaGreatDoorRipFaGrafts6
import Derived.Test.YtnfpmiiopiinbaaGreatDoorRipFaGrafts7
import Derived.Test.YtnfpmiiopiinbaaGreatDoorRipFaGrafts8
import Derived.Test.YtnfpmiiopiinbaaGreatDoorRipFaGrafts9
namespace Go.Proofs.YtnfpmiiopiinbaaGreatDoor.parseGrafts
set_option maxRecDepth 100000
theorem fact6 : (Rows.parseGraftsRow.stops == []) = true := by kernel_rfl
theorem fact7 : (Tryz.pinned.checked.prog.stops == []) = true := by kernel_rfl
theorem fact8 : (Rows.parseGraftsRow.knobs == []) = true := by kernel_rfl
theorem fact9 : (Tryz.pinned.checked.prog.stopKnobs == []) = true := by kernel_rfl
theorem fact14 : (Rows.parseGraftsRow.maps == (Tryz.f14.params.toList ++ (OpenSpec.ofChange Rows.parseGraftsSpec).bare.plain.varTypes Tryz.pinned.checked.prog).any (Tryz.pinned.checked.prog.mapsRec ·)) = true := by kernel_rfl
theorem fact15 : (Rows.parseGraftsRow.ifaces == (Tryz.f14.params.toList ++ (OpenSpec.ofChange Rows.parseGraftsSpec).bare.plain.varTypes Tryz.pinned.checked.prog).any (Tryz.pinned.checked.prog.ifacesRec ·)) = true := by kernel_rfl
theorem fact16 : (Rows.parseGraftsRow.mapsOut == Tryz.pinned.checked.prog.mapsAmong Tryz.f14.resultTypes.toList) = true := by kernel_rfl
theorem fact17 : (Rows.parseGraftsRow.loops == (Tryz.f14.params.toList ++ (OpenSpec.ofChange Rows.parseGraftsSpec).bare.plain.varTypes Tryz.pinned.checked.prog).any (Tryz.pinned.checked.prog.loopsFrom ·)) = true := by kernel_rfl
theorem fact18 : (Rows.parseGraftsRow.wideKeys == (Tryz.f14.params.toList ++ (OpenSpec.ofChange Rows.parseGraftsSpec).bare.plain.varTypes Tryz.pinned.checked.prog ++ Tryz.f14.resultTypes.toList).any (Tryz.pinned.checked.prog.wideKeysFrom ·)) = true := by kernel_rfl
theorem fact19 : (OpenSpec.ofChange Rows.parseGraftsSpec).bare.vars.all (Tryz.pinned.checked.prog.varReadable ·) = true := by kernel_rfl
theorem fact20 : Tryz.f14.resultTypes.all (fun t => Tryz.pinned.checked.prog.readableRec t && decide (t < Tryz.pinned.checked.prog.types.size)) = true := by kernel_rfl
theorem fact21 : (Rows.parseGraftsRow.ifacesOut == Tryz.f14.resultTypes.toList.any (Tryz.pinned.checked.prog.ifacesRec ·)) = true := by kernel_rfl
theorem fact22 : (Rows.parseGraftsRow.loopsOut == Tryz.f14.resultTypes.toList.any (Tryz.pinned.checked.prog.loopsFrom ·)) = true := by kernel_rfl
theorem fact23 : (Rows.parseGraftsRow.plainKeys == Tryz.pinned.checked.prog.plainKeys) = true := by kernel_rfl
theorem fact24 : Rows.parseGraftsRow.shortTexts.isNone = true := by kernel_rfl
end Go.Proofs.YtnfpmiiopiinbaaGreatDoor.parseGrafts
namespace Go.Proofs.YtnfpmiiopiinbaaGreatDoor.parseGrafts
set_option maxRecDepth 100000
theorem facts : joinedFacts Tryz.pinned.checked.prog 14 Tryz.f14 (OpenSpec.ofChange Rows.parseGraftsSpec).bare Rows.parseGraftsRow = true := by
 unfold joinedFacts
 simp only [Bool.and_eq_true]
 exact ⟨⟨⟨⟨⟨⟨⟨⟨⟨⟨⟨⟨⟨⟨⟨⟨⟨⟨⟨⟨⟨⟨⟨⟨⟨⟨⟨⟨⟨⟨⟨fact1, fact2⟩, fact3⟩, fact4⟩, fact5⟩, fact6⟩, fact7⟩, fact8⟩, fact9⟩, fact10⟩, fact11⟩, fact12⟩, fact13⟩, fact14⟩, fact15⟩, fact16⟩, fact17⟩, fact18⟩, fact19⟩, fact20⟩, fact21⟩, fact22⟩, fact23⟩, fact24⟩, fact25⟩, fact26⟩, fact27⟩, fact28⟩, fact29⟩, fact30⟩, fact31⟩, fact32⟩
end Go.Proofs.YtnfpmiiopiinbaaGreatDoor.parseGrafts
