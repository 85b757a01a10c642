/- The law ParseItems returns true at every argument and changes nothing that a caller sees: no conditions beyond those of the card of the statement itself. -/
import Derived.Test.YtnfpmiiopiinbaaGreatDoorRipItL
import Derived.Test.YtnfpmiiopiinbaaGreatDoorRipItC1
import Derived.Test.YtnfpmiiopiinbaaGreatDoorRipItC2
import Derived.Test.YtnfpmiiopiinbaaGreatDoorRipItC3
namespace Go.Proofs.YtnfpmiiopiinbaaGreatDoor.parseItems
theorem card:Rows.ParseItemsCardSaid :=
 Claim7.holds_tied_plain_at .later [] _ _ _ _ said (fun _ h=>by cases h) c1 (fun _ h=>by cases h) parseItems_row_tie rfl ⟨rfl,rfl⟩ c2 rfl plain c3
end Go.Proofs.YtnfpmiiopiinbaaGreatDoor.parseItems
