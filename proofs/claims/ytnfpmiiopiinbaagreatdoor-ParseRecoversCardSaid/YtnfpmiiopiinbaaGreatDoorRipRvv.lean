/- Lemmas for the proof: no conditions. -/
import Derived.Test.YtnfpmiiopiinbaaGreatDoorRipL5
namespace Go.Proofs.YtnfpmiiopiinbaaGreatDoor.parseRecovers
open Go.ChangeShapes Go.WideShapes Go.ChangeAt Go.RowKit
set_option maxRecDepth 1000000
theorem vars_ok (os:Os):((laid.laidWorld os).forCall (λ _ _=>0) ⟨#[],#[.string ⟨#[]⟩,.string ⟨#[]⟩,.string ⟨#[]⟩],[]⟩).variablesRefB Tryz.prog=true:=by kernel_rfl
end Go.Proofs.YtnfpmiiopiinbaaGreatDoor.parseRecovers
