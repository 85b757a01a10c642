/- Lemmas for the proof: no conditions. -/
import Derived.Test.YtnfpmiiopiinbaaGreatDoorRipZz
import Derived.Test.YtnfpmiiopiinbaaGreatDoorRipYe
set_option linter.unusedVariables false
set_option linter.unusedSimpArgs false
set_option linter.loopingSimpArgs false
namespace Go.Rip
def aag (x:Tx):Prop:=x.2≠[]/\fg x.2=(0,x.1,x.2)
instance (x:Tx):Decidable (aag x):=inferInstanceAs (Decidable (_/\_))
end Go.Rip
