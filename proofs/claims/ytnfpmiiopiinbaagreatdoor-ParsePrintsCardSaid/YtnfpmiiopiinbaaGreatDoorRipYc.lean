/- Lemmas for the proof: no conditions. -/
import Derived.Test.YtnfpmiiopiinbaaGreatDoorRipZz
import Derived.Test.YtnfpmiiopiinbaaGreatDoorRipYb
import Derived.Test.YtnfpmiiopiinbaaGreatDoorRipAw
set_option linter.unusedVariables false
set_option linter.unusedSimpArgs false
set_option linter.loopingSimpArgs false
namespace Go.Rip
open Go.Proofs Go.RowKit
theorem Ms {l:List Nd} {i:Nat} {s:Tre} (h:cQ l i s):fV l i=s.flat.length:=by
 obtain ⟨x,hx,_,hs,_⟩:=h.lR
 rw [RJ hx]; omega
end Go.Rip
namespace Go.Rip
open Go.Proofs Go.RowKit
def seen (l:List Nd) (i:Nat) (ks:List Nat) (k:Nat):Nat:=if (k ≠ 0/\upF l k (k - 1) < i)\/k ∈ ks then 1 else 0
theorem ints_at {v5:AV} {ks:List Nat} {c k:Nat} (hv:cB v5 ks.length (cX ks)) (hx:ks[c]?=some k):∃ r,∀ e,au (some (e,1)) none v5 (.int .i64 (c:Nat))=.cond (0 <= (c:Int)/\(c:Int) < ks.length) (.val (.cU (.int .i64 (k:Nat)::r))):=by
 have aM:=(de.1 hx).1
 obtain ⟨r,hr⟩:=tI hx
 refine ⟨r,fun e=>?_⟩
 obtain ⟨cc,rfl,pS⟩:=hv.at (sz:=1) (e:=e) aM
 rw [pS,Nat.mul_one,hr]
theorem ae2 {v5:AV} {ks:List Nat} {c k e:Nat} {U:St} {kq:AV->Prop} (hv:cB v5 ks.length (cX ks)) (hx:ks[c]?=some k) (h:kq (.int .i64 (k:Nat))) :
 aF K (au (some (e,1)) none v5 (.int .i64 (c:Nat))) fun p=>aF K (ah (some (false,1)) p U) kq:=by
 have aM:=(de.1 hx).1
 obtain ⟨r,hr⟩:=ints_at hv hx
 rw [hr,lJ,ax,oo,iE]
 exact ⟨by omega,h⟩
theorem acV {v5:AV} {ks:List Nat} {c k e:Nat} {U:St} {kq:AV->AV->Prop} (hv:cB v5 ks.length (cX ks)) (hx:ks[c]?=some k) (h:∀ L,kq (.cU L) (.int .i64 (k:Nat))) :
 aF K (au (some (e,1)) none v5 (.int .i64 (c:Nat))) fun p=>aF K (ah (some (false,1)) p U) (kq p):=by
 have aM:=(de.1 hx).1
 obtain ⟨r,hr⟩:=ints_at hv hx
 rw [hr,lJ,ax,oo,iE]
 exact ⟨by omega,h _⟩
end Go.Rip
