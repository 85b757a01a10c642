/- The law ParseShorter returns true at every argument and changes nothing that a caller sees: no conditions beyond those of the card of the statement itself. -/
import Derived.Test.YtnfpmiiopiinbaaGreatDoorRipSoL
import Derived.Test.YtnfpmiiopiinbaaGreatDoorRipSoC1
import Derived.Test.YtnfpmiiopiinbaaGreatDoorRipSoC2
import Derived.Test.YtnfpmiiopiinbaaGreatDoorRipSoC3
namespace Go.Proofs.YtnfpmiiopiinbaaGreatDoor.parseShorter
theorem card:Rows.ParseShorterCardSaid :=
 Claim7.holds_tied_plain_at .later [] _ _ _ _ said (fun _ h=>by cases h) c1 (fun _ h=>by cases h) parseShorter_row_tie rfl ⟨rfl,rfl⟩ c2 rfl plain c3
end Go.Proofs.YtnfpmiiopiinbaaGreatDoor.parseShorter
