/- Lemmas for the proof: no conditions. -/
import Derived.Test.YtnfpmiiopiinbaaGreatDoorRipZz
import Derived.Test.YtnfpmiiopiinbaaGreatDoorRipP
import Derived.Test.YtnfpmiiopiinbaaGreatDoorRipS
import Derived.Test.YtnfpmiiopiinbaaGreatDoorRipT
set_option linter.unusedVariables false
set_option linter.unusedSimpArgs false
set_option linter.loopingSimpArgs false
namespace Go.Rip
open Go.Proofs Go.RowKit
theorem mq (b : Bool) : aI (.aN []) b = .bool false := by cases b <;> rfl
end Go.Rip
namespace Go.Rip
open Go.Proofs Go.RowKit
def Lj (v w : AV) : Prop := ∀ τ n l n' l', v = .vec n (.own τ) l -> w = .vec n' (.own τ) l' -> False
theorem Lj.symm {v w : AV} (h : Lj v w) : Lj w v := fun τ n l n' l' h1 h2 => h τ n' l' n l h2 h1
theorem Grow.vR {U ad : St} {v : AV} {e sz n : Nat} {l : List AV} (g : Grow U v e sz n l) (h : cm U ad) : Grow ad v e sz n l := by
 rcases g with g | ⟨τ, h1, h2, h3⟩
 · exact .inl g
 · exact .inr ⟨τ, h1, h.tok h2, h3⟩
end Go.Rip
