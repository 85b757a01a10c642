/- Lemmas for the proof: no conditions. -/
import Derived.Test.YtnfpmiiopiinbaaGreatDoorRipZz
import Derived.Test.YtnfpmiiopiinbaaGreatDoorRipYb
import Derived.Test.YtnfpmiiopiinbaaGreatDoorRipAw
set_option linter.unusedVariables false
set_option linter.unusedSimpArgs false
set_option linter.loopingSimpArgs false
namespace Go.Rip
open Go.Proofs Go.RowKit
theorem OA {l:List Nd}:nq l 0=gp l:=by
 by_cases hc:gp l=0
 . have h9:¬ 900 < l.length:=fun h=>by unfold gp at hc; rw [if_pos h] at hc; cases hc
   have:∃ t:Tre,l=t.flat/\t.kind=1/\t.ok=true:=Classical.not_not.1 fun h=>by rw [tM h9 h] at hc; cases hc
   obtain ⟨t,rfl,h1,h2⟩:=this
   have:=t.dE
   rw [hc,D9 hc (by omega)]
 . exact xy hc
section
variable {v:AV} {l:List Nd}
end
end Go.Rip
namespace Go.Rip
open Go.Proofs Go.RowKit
theorem Oa {l:List Nd} {i:Nat} {s:Tre} (h:gn l i s):gw l i=s.flat.length:=by
 obtain ⟨x,hx,_,hs,_⟩:=h.rh
 rw [Te hx]; omega
end Go.Rip
namespace Go.Rip
open Go.Proofs Go.RowKit
def seen (l:List Nd) (i:Nat) (ks:List Nat) (k:Nat):Nat:=if (k ≠ 0/\upF l k (k - 1) < i)\/k ∈ ks then 1 else 0
theorem ints_at {v5:AV} {ks:List Nat} {c k:Nat} (hv:eP v5 ks.length (jg ks)) (hx:ks[c]?=some k):∃ r,∀ e,aO (some (e,1)) none v5 (.int .i64 (c:Nat))=.cond (0 <= (c:Int)/\(c:Int) < ks.length) (.val (.cQ (.int .i64 (k:Nat)::r))):=by
 have aQ:=(dC.1 hx).1
 obtain ⟨r,hr⟩:=UJ hx
 refine ⟨r,fun e=>?_⟩
 obtain ⟨cc,rfl,tB⟩:=hv.at (sz:=1) (e:=e) aQ
 rw [tB,Nat.mul_one,hr]
end Go.Rip
namespace Go.Rip
open Go.Proofs Go.RowKit
def adr (x:Nd):Nd:={ x with at_:=0 }
def CG (l:List Nd):List Nd:=l.map adr
section
variable {v:AV} {l:List Nd}
end
end Go.Rip
