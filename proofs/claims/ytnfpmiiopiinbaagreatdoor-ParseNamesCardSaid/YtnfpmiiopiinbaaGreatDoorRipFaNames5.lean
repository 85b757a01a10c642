/- Lemmas for the proof that ParseNames returns true: no conditions. -/
import Derived.Test.YtnfpmiiopiinbaaGreatDoorRows
import Derived.WalkKit
import Derived.ProofKit
import Derived.Deep.DeepHandedRow
import Derived.KernelRfl
/- Closed facts of the row of parseNames. -/
namespace Go.Proofs.YtnfpmiiopiinbaaGreatDoor.parseNames
set_option maxRecDepth 100000
theorem fact6 : (Rows.parseNamesRow.stops == []) = true := by kernel_rfl
theorem fact7 : (Tryz.pinned.checked.prog.stops == []) = true := by kernel_rfl
theorem fact8 : (Rows.parseNamesRow.knobs == []) = true := by kernel_rfl
theorem fact9 : (Tryz.pinned.checked.prog.stopKnobs == []) = true := by kernel_rfl
theorem fact14 : (Rows.parseNamesRow.maps == (Tryz.f16.params.toList ++ (OpenSpec.ofChange Rows.parseNamesSpec).bare.plain.varTypes Tryz.pinned.checked.prog).any (Tryz.pinned.checked.prog.mapsRec ·)) = true := by kernel_rfl
theorem fact15 : (Rows.parseNamesRow.ifaces == (Tryz.f16.params.toList ++ (OpenSpec.ofChange Rows.parseNamesSpec).bare.plain.varTypes Tryz.pinned.checked.prog).any (Tryz.pinned.checked.prog.ifacesRec ·)) = true := by kernel_rfl
theorem fact16 : (Rows.parseNamesRow.mapsOut == Tryz.pinned.checked.prog.mapsAmong Tryz.f16.resultTypes.toList) = true := by kernel_rfl
theorem fact17 : (Rows.parseNamesRow.loops == (Tryz.f16.params.toList ++ (OpenSpec.ofChange Rows.parseNamesSpec).bare.plain.varTypes Tryz.pinned.checked.prog).any (Tryz.pinned.checked.prog.loopsFrom ·)) = true := by kernel_rfl
theorem fact18 : (Rows.parseNamesRow.wideKeys == (Tryz.f16.params.toList ++ (OpenSpec.ofChange Rows.parseNamesSpec).bare.plain.varTypes Tryz.pinned.checked.prog ++ Tryz.f16.resultTypes.toList).any (Tryz.pinned.checked.prog.wideKeysFrom ·)) = true := by kernel_rfl
theorem fact19 : (OpenSpec.ofChange Rows.parseNamesSpec).bare.vars.all (Tryz.pinned.checked.prog.varReadable ·) = true := by kernel_rfl
theorem fact20 : Tryz.f16.resultTypes.all (fun t => Tryz.pinned.checked.prog.readableRec t && decide (t < Tryz.pinned.checked.prog.types.size)) = true := by kernel_rfl
theorem fact21 : (Rows.parseNamesRow.ifacesOut == Tryz.f16.resultTypes.toList.any (Tryz.pinned.checked.prog.ifacesRec ·)) = true := by kernel_rfl
theorem fact22 : (Rows.parseNamesRow.loopsOut == Tryz.f16.resultTypes.toList.any (Tryz.pinned.checked.prog.loopsFrom ·)) = true := by kernel_rfl
theorem fact23 : (Rows.parseNamesRow.plainKeys == Tryz.pinned.checked.prog.plainKeys) = true := by kernel_rfl
theorem fact24 : Rows.parseNamesRow.shortTexts.isNone = true := by kernel_rfl
end Go.Proofs.YtnfpmiiopiinbaaGreatDoor.parseNames
