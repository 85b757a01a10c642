/- ParseNames returns true and changes nothing that a caller sees: no conditions beyond the card of the statement itself. -/
import Derived.Test.YtnfpmiiopiinbaaGreatDoorRipG
import Derived.Test.YtnfpmiiopiinbaaGreatDoorRipH
namespace Go.Proofs.YtnfpmiiopiinbaaGreatDoor.parseNames
theorem card : Rows.ParseNamesCardSaid :=
  Claim7.holds_tied_plain_at .later [] _ _ _ _ said (fun _ h => by cases h) c1 (fun _ h => by cases h) parseNames_row_tie rfl ⟨rfl, rfl⟩ c2 rfl plain c3
end Go.Proofs.YtnfpmiiopiinbaaGreatDoor.parseNames
