/- Lemmas for the proof: no conditions. -/
import Derived.Test.YtnfpmiiopiinbaaGreatDoorCards
import Derived.Test.YtnfpmiiopiinbaaGreatDoorTie
import Derived.KernelRfl
namespace Go.Proofs.YtnfpmiiopiinbaaGreatDoor.parseRecovers
set_option maxRecDepth 100000
theorem c3:false=Rows.parseRecoversRow.goesBy Tryz.pinned.checked.prog:=by kernel_rfl
end Go.Proofs.YtnfpmiiopiinbaaGreatDoor.parseRecovers
