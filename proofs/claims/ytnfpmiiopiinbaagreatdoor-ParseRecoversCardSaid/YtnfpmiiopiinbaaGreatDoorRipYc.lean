/- Lemmas for the proof: no conditions. -/
import Derived.Test.YtnfpmiiopiinbaaGreatDoorRipZz
import Derived.Test.YtnfpmiiopiinbaaGreatDoorRipYb
import Derived.Test.YtnfpmiiopiinbaaGreatDoorRipAw
set_option linter.unusedVariables false
set_option linter.unusedSimpArgs false
set_option linter.loopingSimpArgs false
namespace Go.Rip
open Go.Proofs Go.RowKit
def seen (l:List Nd) (i:Nat) (ks:List Nat) (k:Nat):Nat:=if (k≠0/\upF l k (k-1)<i)\/k∈ks then 1 else 0
theorem ints_at {v5:AV} {ks:List Nat} {c k:Nat} (hv:gx v5 ks.length (ia ks)) (hx:ks[c]?=some k):∃ r,∀ e,aJ (some (e,1)) none v5 (.int .i64 (c:Nat))=.cond (0<=(c:Int)/\(c:Int)<ks.length) (.val (.ca (.int .i64 (k:Nat)::r))):=by
 have aL:=(dp.1 hx).1;obtain⟨r,hr⟩:=Pw hx;refine⟨r,λ e=>?_⟩;obtain⟨cc,rfl,oe⟩:=hv.at (sz:=1) (e:=e) aL;rw[oe,Nat.mul_one,hr]
theorem Fu {v5:AV} {ks:List Nat} {c k e:Nat} {U:St} {kq:AV->Prop} (hv:gx v5 ks.length (ia ks)) (hx:ks[c]?=some k) (h:kq (.int .i64 (k:Nat))) :
 ao K (aJ (some (e,1)) none v5 (.int .i64 (c:Nat))) λ p=>ao K (ar (some (false,1)) p U) kq:=by
 have aL:=(dp.1 hx).1;obtain⟨r,hr⟩:=ints_at hv hx;rw[hr,gP,aD,oO,fi];exact⟨by omega,h⟩
end Go.Rip
