/- The law ParseBack returns true at every argument and changes nothing that a caller sees: no conditions beyond those of the card of the statement itself. -/
import Derived.Test.YtnfpmiiopiinbaaGreatDoorRipBkL
import Derived.Test.YtnfpmiiopiinbaaGreatDoorRipBkC1
import Derived.Test.YtnfpmiiopiinbaaGreatDoorRipBkC2
import Derived.Test.YtnfpmiiopiinbaaGreatDoorRipBkC3
namespace Go.Proofs.YtnfpmiiopiinbaaGreatDoor.parseBack
theorem card:Rows.ParseBackCardSaid :=
 Claim7.holds_tied_plain_at .later [] _ _ _ _ said (fun _ h=>by cases h) c1 (fun _ h=>by cases h) parseBack_row_tie rfl ⟨rfl,rfl⟩ c2 rfl plain c3
end Go.Proofs.YtnfpmiiopiinbaaGreatDoor.parseBack
