/- Lemmas for the proof: no conditions. -/
import Derived.Test.YtnfpmiiopiinbaaGreatDoorRipZz
import Derived.Test.YtnfpmiiopiinbaaGreatDoorRipYc
import Derived.Test.YtnfpmiiopiinbaaGreatDoorRipH
import Derived.Test.YtnfpmiiopiinbaaGreatDoorRipYe
set_option linter.unusedVariables false
set_option linter.unusedSimpArgs false
set_option linter.loopingSimpArgs false
namespace Go.Rip
open Go.Proofs Go.RowKit
def Fr (b:Nat) (U ad:St):Prop:=∀ c x,c≠b->U.live c=some x->(∀ t,x=.tok t->t.e≠51)->ad.live c=some x
section
variable {b c:Nat} {U az bF ad:St} {v:AV} {ads l rest:List Tx}
theorem Fr.refl (b:Nat) (U:St):Fr b U U:=λ _ _ _ h _=>h
theorem Fr.trans (h:Fr b U bF) (k:Fr b bF ad):Fr b U ad:=λ c x n e t=>k c x n (h c x n e t) t
theorem Fr.pX (h:cG U ad):Fr b U ad:=λ c x _ e _=>h c x e
theorem Fr.bf (h:Fr b U ad) (n:c≠b) {y:List AV} (k:U.box c=some y):ad.box c=some y:=by
 cases e:U.live c with
 | none=>simp[St.box,e]at k
 | some x =>
   rw[dx ((h c x n e ?_).trans e.symm)]; exact k;intro t ht;subst ht;simp[St.box,e]at k
end
end Go.Rip
