import Derived.Test.YtnfpmiiopiinbaaGreatDoorL5
namespace Go.Proofs.YtnfpmiiopiinbaaGreatDoor.parseMemory
open Go.ChangeShapes Go.WideShapes Go.ChangeAt Go.RowKit
set_option maxRecDepth 1000000
theorem vars_ok (os:Os):((laid.laidWorld os).forCall (λ _ _=>0) ⟨#[],#[.string ⟨#[]⟩,.agg #[.slice none 0 0]],[]⟩).variablesRefB Tryz.prog=true:=by kernel_rfl
end Go.Proofs.YtnfpmiiopiinbaaGreatDoor.parseMemory
