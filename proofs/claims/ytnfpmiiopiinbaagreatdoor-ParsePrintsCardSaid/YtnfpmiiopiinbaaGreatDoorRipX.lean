/- Lemmas for the proof: no conditions. -/
import Derived.Test.YtnfpmiiopiinbaaGreatDoorRipZz
import Derived.Test.YtnfpmiiopiinbaaGreatDoorRipK
import Derived.Test.YtnfpmiiopiinbaaGreatDoorRipI
import Derived.Test.YtnfpmiiopiinbaaGreatDoorRipS
import Derived.Test.YtnfpmiiopiinbaaGreatDoorRipYb
set_option linter.unusedVariables false
set_option linter.unusedSimpArgs false
set_option linter.loopingSimpArgs false
namespace Go.Rip
def Is1 (c:Int->Bool) (ns:List Nd):Prop:=∃ t:Tre,ns=t.flat/\t.ok=true/\c t.kind=true
def Xs (c:Int->Bool) (m:Nat) (ns:List Nd):Prop:=∃ ts:List Tre,ns=Tre.bQ ts/\Tre.yo ts=true/\(∀ t ∈ ts,c t.kind=true)/\ts.length=m
theorem Xs.nil {c:Int->Bool}:Xs c 0 []:=⟨[],by simp,by simp,by simp,rfl⟩
theorem Is1.n {c:Int->Bool} {ns:List Nd} (h:Is1 c ns):Xs c 1 ns:=by
 obtain ⟨t,h1,h2,h3⟩:=h
 exact ⟨[t],by simp [h1],by simp [h2],by simpa using h3,rfl⟩
section
variable {c:Int->Bool} {k:Int} {tx:aY} {n m a:Int} {f:fQ} {ts:List Tre} {ns:List Nd}
end
section
variable {L:List Tk} {E:Nat}
end
end Go.Rip
namespace Go.Rip
open Go.Proofs Go.RowKit
section
variable {aw U:St} {v y:AV} {e:TypeId} {sz n m:Nat} {l l2:List AV} {K':AV->St->Prop} {Kp:AV->St->Prop}
end
theorem ij {s:aY} (h:fA s=true):s.length <= 12:=by
 unfold fA at h
 rw [da] at h
 rcases p5 h with h | h | h | h
 . exact h.2.2.1
 . omega
 . omega
 . omega
end Go.Rip
