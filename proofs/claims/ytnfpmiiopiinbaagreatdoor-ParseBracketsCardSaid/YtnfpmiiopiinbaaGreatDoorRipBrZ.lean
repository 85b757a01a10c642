/- The law ParseBrackets returns true at every argument and changes nothing that a caller sees: no conditions beyond those of the card of the statement itself. -/
import Derived.Test.YtnfpmiiopiinbaaGreatDoorRipBrL
import Derived.Test.YtnfpmiiopiinbaaGreatDoorRipBrC1
import Derived.Test.YtnfpmiiopiinbaaGreatDoorRipBrC2
import Derived.Test.YtnfpmiiopiinbaaGreatDoorRipBrC3
namespace Go.Proofs.YtnfpmiiopiinbaaGreatDoor.parseBrackets
theorem card:Rows.ParseBracketsCardSaid :=
 Claim7.holds_tied_plain_at .later [] _ _ _ _ said (λ _ h=>by cases h) c1 (λ _ h=>by cases h) parseBrackets_row_tie rfl ⟨rfl,rfl⟩ c2 rfl plain c3
end Go.Proofs.YtnfpmiiopiinbaaGreatDoor.parseBrackets
