/- The law ParsePrints returns true at every argument and changes nothing that a caller sees: no conditions beyond those of the card of the statement itself. -/
import Derived.Test.YtnfpmiiopiinbaaGreatDoorRipPrL
import Derived.Test.YtnfpmiiopiinbaaGreatDoorRipPrC1
import Derived.Test.YtnfpmiiopiinbaaGreatDoorRipPrC2
import Derived.Test.YtnfpmiiopiinbaaGreatDoorRipPrC3
namespace Go.Proofs.YtnfpmiiopiinbaaGreatDoor.parsePrints
theorem card:Rows.ParsePrintsCardSaid :=
 Claim7.holds_tied_plain_at .later [] _ _ _ _ said (fun _ h=>by cases h) c1 (fun _ h=>by cases h) parsePrints_row_tie rfl ⟨rfl,rfl⟩ c2 rfl plain c3
end Go.Proofs.YtnfpmiiopiinbaaGreatDoor.parsePrints
