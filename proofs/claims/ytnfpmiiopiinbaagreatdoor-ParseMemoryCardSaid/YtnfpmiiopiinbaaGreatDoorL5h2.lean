import Derived.Test.YtnfpmiiopiinbaaGreatDoorL5
namespace Go.Proofs.YtnfpmiiopiinbaaGreatDoor.laid
open Go.ChangeShapes Go.WideShapes Go.ChangeAt Go.RowKit
set_option maxRecDepth 1000000
theorem h2 (os:Os) (args:Array Value):(DataW.laidRun Tryz.prog ((laidWorld os).forCall (λ _ _=>0) ⟨#[],args,[]⟩).memory 8 (Rows.parseNamesRow.laid.map (·.1))).map (λ x=>nodupB (x.2.map MemPlace.codeOf))=some true:=by kernel_rfl
end Go.Proofs.YtnfpmiiopiinbaaGreatDoor.laid
