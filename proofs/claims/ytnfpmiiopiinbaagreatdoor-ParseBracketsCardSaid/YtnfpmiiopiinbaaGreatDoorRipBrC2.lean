/- Lemmas for the proof: no conditions. -/
import Derived.Test.YtnfpmiiopiinbaaGreatDoorCards
import Derived.Test.YtnfpmiiopiinbaaGreatDoorTie
import Derived.KernelRfl
namespace Go.Proofs.YtnfpmiiopiinbaaGreatDoor.parseBrackets
set_option maxRecDepth 100000
theorem c3:false=Rows.parseBracketsRow.goesBy Tryz.pinned.checked.prog:=by kernel_rfl
end Go.Proofs.YtnfpmiiopiinbaaGreatDoor.parseBrackets
