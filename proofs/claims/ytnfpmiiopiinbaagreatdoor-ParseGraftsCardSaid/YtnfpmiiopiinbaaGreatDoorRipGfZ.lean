/- The law ParseGrafts returns true at every argument and changes nothing that a caller sees: no conditions beyond those of the card of the statement itself. -/
import Derived.Test.YtnfpmiiopiinbaaGreatDoorRipGfL
import Derived.Test.YtnfpmiiopiinbaaGreatDoorRipGfC1
import Derived.Test.YtnfpmiiopiinbaaGreatDoorRipGfC2
import Derived.Test.YtnfpmiiopiinbaaGreatDoorRipGfC3
namespace Go.Proofs.YtnfpmiiopiinbaaGreatDoor.parseGrafts
theorem card : Rows.ParseGraftsCardSaid :=
 Claim7.holds_tied_plain_at .later [] _ _ _ _ said (fun _ h => by cases h) c1 (fun _ h => by cases h) parseGrafts_row_tie rfl ⟨rfl, rfl⟩ c2 rfl plain c3
end Go.Proofs.YtnfpmiiopiinbaaGreatDoor.parseGrafts
