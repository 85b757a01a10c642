/- ParseKin returns true at every argument and changes nothing that a caller sees: no conditions beyond the card of the statement itself. -/
import Derived.Test.YtnfpmiiopiinbaaGreatDoorRipKnL
import Derived.Test.YtnfpmiiopiinbaaGreatDoorRipKnC1
import Derived.Test.YtnfpmiiopiinbaaGreatDoorRipKnC2
import Derived.Test.YtnfpmiiopiinbaaGreatDoorRipKnC3
namespace Go.Proofs.YtnfpmiiopiinbaaGreatDoor.parseKin
theorem card : Rows.ParseKinCardSaid :=
 Claim7.holds_tied_plain_at .later [] _ _ _ _ said (fun _ h => by cases h) c1 (fun _ h => by cases h) parseKin_row_tie rfl ⟨rfl, rfl⟩ c2 rfl plain c3
end Go.Proofs.YtnfpmiiopiinbaaGreatDoor.parseKin
