/- The law ParseRecovers returns true at every argument and changes nothing that a caller sees: no conditions beyond those of the card of the statement itself. -/
import Derived.Test.YtnfpmiiopiinbaaGreatDoorRipRvL
import Derived.Test.YtnfpmiiopiinbaaGreatDoorRipRvC1
import Derived.Test.YtnfpmiiopiinbaaGreatDoorRipRvC2
import Derived.Test.YtnfpmiiopiinbaaGreatDoorRipRvC3
namespace Go.Proofs.YtnfpmiiopiinbaaGreatDoor.parseRecovers
theorem card:Rows.ParseRecoversCardSaid :=
 Claim7.holds_tied_plain_at .later [] _ _ _ _ said (λ _ h=>by cases h) c1 (λ _ h=>by cases h) parseRecovers_row_tie rfl ⟨rfl,rfl⟩ c2 rfl plain c3
end Go.Proofs.YtnfpmiiopiinbaaGreatDoor.parseRecovers
