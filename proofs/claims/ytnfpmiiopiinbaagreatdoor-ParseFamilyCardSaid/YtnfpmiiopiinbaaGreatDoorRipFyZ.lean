/- ParseFamily returns true at every argument and changes nothing that a caller sees: no conditions beyond the card of the statement itself. -/
import Derived.Test.YtnfpmiiopiinbaaGreatDoorRipFyL
import Derived.Test.YtnfpmiiopiinbaaGreatDoorRipFyC1
import Derived.Test.YtnfpmiiopiinbaaGreatDoorRipFyC2
import Derived.Test.YtnfpmiiopiinbaaGreatDoorRipFyC3
namespace Go.Proofs.YtnfpmiiopiinbaaGreatDoor.parseFamily
theorem card : Rows.ParseFamilyCardSaid :=
 Claim7.holds_tied_plain_at .later [] _ _ _ _ said (fun _ h => by cases h) c1 (fun _ h => by cases h) parseFamily_row_tie rfl ⟨rfl, rfl⟩ c2 rfl plain c3
end Go.Proofs.YtnfpmiiopiinbaaGreatDoor.parseFamily
