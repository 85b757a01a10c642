/- The law ParseMemory returns true at every argument and changes nothing that a caller sees: no conditions beyond those of the card of the statement itself. -/
import Derived.Test.YtnfpmiiopiinbaaGreatDoorMeL
import Derived.Test.YtnfpmiiopiinbaaGreatDoorMeC1
import Derived.Test.YtnfpmiiopiinbaaGreatDoorMeC2
import Derived.Test.YtnfpmiiopiinbaaGreatDoorMeC3
namespace Go.Proofs.YtnfpmiiopiinbaaGreatDoor.parseMemory
theorem card:Rows.ParseMemoryCardSaid :=
 Claim7.holds_tied_plain_at .later [] _ _ _ _ said (λ _ h=>by cases h) c1 (λ _ h=>by cases h) parseMemory_row_tie rfl ⟨rfl,rfl⟩ c2 rfl plain c3
end Go.Proofs.YtnfpmiiopiinbaaGreatDoor.parseMemory
