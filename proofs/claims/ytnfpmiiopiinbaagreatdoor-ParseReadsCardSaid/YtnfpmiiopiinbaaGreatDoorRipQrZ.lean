/- ParseReads returns true at every argument and changes nothing that a caller sees: no conditions beyond the card of the statement itself. -/
import Derived.Test.YtnfpmiiopiinbaaGreatDoorRipQrL
import Derived.Test.YtnfpmiiopiinbaaGreatDoorRipQrC1
import Derived.Test.YtnfpmiiopiinbaaGreatDoorRipQrC2
import Derived.Test.YtnfpmiiopiinbaaGreatDoorRipQrC3
namespace Go.Proofs.YtnfpmiiopiinbaaGreatDoor.parseReads
theorem card : Rows.ParseReadsCardSaid :=
 Claim7.holds_tied_plain_at .later [] _ _ _ _ said (fun _ h => by cases h) c1 (fun _ h => by cases h) parseReads_row_tie rfl ⟨rfl, rfl⟩ c2 rfl plain c3
end Go.Proofs.YtnfpmiiopiinbaaGreatDoor.parseReads
