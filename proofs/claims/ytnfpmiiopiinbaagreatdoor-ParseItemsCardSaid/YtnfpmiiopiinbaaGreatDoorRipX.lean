/- Lemmas for the proof: no conditions. -/
import Derived.Test.YtnfpmiiopiinbaaGreatDoorRipZz
import Derived.Test.YtnfpmiiopiinbaaGreatDoorRipK
import Derived.Test.YtnfpmiiopiinbaaGreatDoorRipI
import Derived.Test.YtnfpmiiopiinbaaGreatDoorRipS
import Derived.Test.YtnfpmiiopiinbaaGreatDoorRipYb
set_option linter.unusedVariables false
set_option linter.unusedSimpArgs false
set_option linter.loopingSimpArgs false
namespace Go.Rip
def Ia (c:Int->Bool) (ns:List Nd):Prop:=∃ t:Tre,ns=t.flat/\t.ok=true/\c t.kind=true
def CY (c:Int->Bool) (m:Nat) (ns:List Nd):Prop:=∃ ts:List Tre,ns=Tre.bA ts/\Tre.sv ts=true/\(∀ t ∈ ts,c t.kind=true)/\ts.length=m
theorem CY.nil {c:Int->Bool}:CY c 0 []:=⟨[],by simp,by simp,by simp,rfl⟩
theorem Ia.n {c:Int->Bool} {ns:List Nd} (h:Ia c ns):CY c 1 ns:=by
 obtain ⟨t,h1,h2,h3⟩:=h
 exact ⟨[t],by simp [h1],by simp [h2],by simpa using h3,rfl⟩
theorem CY.snoc {c:Int->Bool} {m:Nat} {ns ns':List Nd} (h:CY c m ns) (k:Ia c ns'):CY c (m+1) (ns++ns'):=by
 obtain ⟨t,h1,h2,h3⟩:=k
 obtain ⟨ts,k1,k2,k3,k4⟩:=h
 refine ⟨ts++[t],by simp [Tre.mX,h1,k1],by simp [Tre.Bv,h2,k2],fun x hx=>?_,by simp [k4]⟩
 rw [fB,jg] at hx
 rcases hx with hx | rfl
 . exact k3 x hx
 . exact h3
theorem Ia.low {c c':Int->Bool} {ns:List Nd} (h:Ia c ns) (k:∀ x,c x=true->c' x=true):Ia c' ns:=by
 obtain ⟨t,h1,h2,h3⟩:=h
 exact ⟨t,h1,h2,k _ h3⟩
theorem CY.le {c:Int->Bool} {m:Nat} {ns:List Nd} (h:CY c m ns):m <= ns.length:=by
 obtain ⟨ts,k1,k2,k3,k4⟩:=h
 rw [k1,<- k4]; exact Tre.oZ ts
section
variable {c:Int->Bool} {k:Int} {tx:aQ} {n m a:Int} {f:jK} {ts:List Tre} {ns:List Nd}
end
section
variable {L:List Tk} {E:Nat}
end
end Go.Rip
namespace Go.Rip
open Go.Proofs Go.RowKit
section
variable {ao U:St} {v y:AV} {e:TypeId} {sz n m:Nat} {l l2:List AV} {K':AV->St->Prop} {Kp:AV->St->Prop}
end
theorem eo.fh {ao U:St} {v:AV} {ns:List Nd} (h:eo ao U v 43 6 ns.length (cH ns)):lC U v ns:=by
 rcases h.g with ⟨h1,h2,h3⟩ | ⟨τ,r1,_,_⟩
 . exact .inl (.inl ⟨h3,qS.1 h1⟩)
 . exact .inl (.inr ⟨_,r1⟩)
end Go.Rip
namespace Go.Rip
open Go.Proofs Go.RowKit
theorem eo.apart {Uo U ad:St} {v w:AV} {e sz n e2 ZB n2:Nat} {l l2:List AV} (h:eo Uo U v e sz n l) (bT:e ≠ e2) (k:eo Uo U w e2 ZB n2 l2) (hx:cN Uo ad) (e1:∀ b x,(∀ n l,w ≠ .vec n (.own b) l)->U.live b=some x->ad.live b=some x):eo Uo ad v e sz n l :=
 ⟨h.g.other bT k.g e1,h.z,h.t,hx⟩
end Go.Rip
