/- Lemmas for the proof: no conditions. -/
import Derived.Test.YtnfpmiiopiinbaaGreatDoorRipZz
import Derived.Test.YtnfpmiiopiinbaaGreatDoorRipQ
import Derived.Test.YtnfpmiiopiinbaaGreatDoorRipF
set_option linter.unusedVariables false
set_option linter.unusedSimpArgs false
set_option linter.loopingSimpArgs false
namespace Go.Rip
open Go.Proofs Go.RowKit
theorem yA : ∀ l : List Nd, bG (cF l) = true := fun l => by
 induction l with
 | nil => rfl
 | cons x l ih => show bG (cM x ++ cF l) = true; simp [cM, bG, closed, ih]
theorem rJ (l : List Nd) : closed (qu l) = true := by
 unfold qu; split
 · rfl
 · exact yA l
theorem xv (n : Nat) (U : St) (l : List Nd) : (cF l).map (resolve (n + 1) U) = cF l := by
 induction l with
 | nil => rfl
 | cons x l ih =>
   show ((cM x ++ cF l).map (resolve (n + 1) U)) = cM x ++ cF l
   rw [List.map_append, ih]; rfl
end Go.Rip
