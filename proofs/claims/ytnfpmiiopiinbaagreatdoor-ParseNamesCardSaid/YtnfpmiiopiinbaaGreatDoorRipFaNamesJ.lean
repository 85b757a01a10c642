/- Lemmas for the proof that ParseNames returns true: no conditions. -/
import Derived.Test.YtnfpmiiopiinbaaGreatDoorRipFaNames0
import Derived.Test.YtnfpmiiopiinbaaGreatDoorRipFaNames1
import Derived.Test.YtnfpmiiopiinbaaGreatDoorRipFaNames2
import Derived.Test.YtnfpmiiopiinbaaGreatDoorRipFaNames3
import Derived.Test.YtnfpmiiopiinbaaGreatDoorRipFaNames4
import Derived.Test.YtnfpmiiopiinbaaGreatDoorRipFaNames5
import Derived.Test.YtnfpmiiopiinbaaGreatDoorRipFaNames6
import Derived.Test.YtnfpmiiopiinbaaGreatDoorRipFaNames7
import Derived.Test.YtnfpmiiopiinbaaGreatDoorRipFaNames8
import Derived.Test.YtnfpmiiopiinbaaGreatDoorRipFaNames9
/- The closed facts of the row of parseNames, joined. -/
namespace Go.Proofs.YtnfpmiiopiinbaaGreatDoor.parseNames
set_option maxRecDepth 100000
theorem facts : joinedFacts Tryz.pinned.checked.prog 16 Tryz.f16 (OpenSpec.ofChange Rows.parseNamesSpec).bare Rows.parseNamesRow = true := by
  unfold joinedFacts
  simp only [Bool.and_eq_true]
  exact ⟨⟨⟨⟨⟨⟨⟨⟨⟨⟨⟨⟨⟨⟨⟨⟨⟨⟨⟨⟨⟨⟨⟨⟨⟨⟨⟨⟨⟨⟨⟨fact1, fact2⟩, fact3⟩, fact4⟩, fact5⟩, fact6⟩, fact7⟩, fact8⟩, fact9⟩, fact10⟩, fact11⟩, fact12⟩, fact13⟩, fact14⟩, fact15⟩, fact16⟩, fact17⟩, fact18⟩, fact19⟩, fact20⟩, fact21⟩, fact22⟩, fact23⟩, fact24⟩, fact25⟩, fact26⟩, fact27⟩, fact28⟩, fact29⟩, fact30⟩, fact31⟩, fact32⟩
end Go.Proofs.YtnfpmiiopiinbaaGreatDoor.parseNames
