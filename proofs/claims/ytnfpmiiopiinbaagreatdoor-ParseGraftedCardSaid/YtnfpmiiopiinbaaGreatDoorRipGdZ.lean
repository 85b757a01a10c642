/- The law ParseGrafted returns true at every argument and changes nothing that a caller sees: no conditions beyond those of the card of the statement itself. -/
import Derived.Test.YtnfpmiiopiinbaaGreatDoorRipGdL
import Derived.Test.YtnfpmiiopiinbaaGreatDoorRipGdC1
import Derived.Test.YtnfpmiiopiinbaaGreatDoorRipGdC2
import Derived.Test.YtnfpmiiopiinbaaGreatDoorRipGdC3
namespace Go.Proofs.YtnfpmiiopiinbaaGreatDoor.parseGrafted
theorem card : Rows.ParseGraftedCardSaid :=
 Claim7.holds_tied_plain_at .later [] _ _ _ _ said (fun _ h => by cases h) c1 (fun _ h => by cases h) parseGrafted_row_tie rfl ⟨rfl, rfl⟩ c2 rfl plain c3
end Go.Proofs.YtnfpmiiopiinbaaGreatDoor.parseGrafted
