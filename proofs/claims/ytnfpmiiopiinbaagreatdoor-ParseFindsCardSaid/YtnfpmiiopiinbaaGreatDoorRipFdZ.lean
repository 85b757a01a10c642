/- ParseFinds returns true at every argument and changes nothing that a caller sees: no conditions beyond the card of the statement itself. -/
import Derived.Test.YtnfpmiiopiinbaaGreatDoorRipFdL
import Derived.Test.YtnfpmiiopiinbaaGreatDoorRipFdC1
import Derived.Test.YtnfpmiiopiinbaaGreatDoorRipFdC2
import Derived.Test.YtnfpmiiopiinbaaGreatDoorRipFdC3
namespace Go.Proofs.YtnfpmiiopiinbaaGreatDoor.parseFinds
theorem card : Rows.ParseFindsCardSaid :=
 Claim7.holds_tied_plain_at .later [] _ _ _ _ said (fun _ h => by cases h) c1 (fun _ h => by cases h) parseFinds_row_tie rfl ⟨rfl, rfl⟩ c2 rfl plain c3
end Go.Proofs.YtnfpmiiopiinbaaGreatDoor.parseFinds
