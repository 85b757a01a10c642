/- Lemmas for the proof: no conditions. -/
import Derived.Test.YtnfpmiiopiinbaaGreatDoorRipZz
import Derived.Test.YtnfpmiiopiinbaaGreatDoorRipN
set_option linter.unusedVariables false
set_option linter.unusedSimpArgs false
set_option linter.loopingSimpArgs false
namespace Go.Rip
open Go.Proofs Go.RowKit
section
variable {X:Rx} {aw U:St} {r k i:Nat} {R:cO->St->Prop} {K':AV->St->Prop} {Kp:AV->St->Prop} {f:FuncId}
def Co (X:Rx) (i hO:Nat) (p:PR (List Nd)):Prop:=∀ (r:Nat) (U:St) (R:cO->St->Prop),U.box r=some (rd X i)->Out X r U R p->ag K 219 [.box r 0,.int .i64 (hO:Nat)] U R
end
end Go.Rip
namespace Go.Rip
open Go.Proofs Go.RowKit
section
variable {X:Rx} {aw U:St} {r k i:Nat} {kind:Int} {text:aY} {n m at_:Int} {l:List Nd} {R:cO->St->Prop} {K':AV->St->Prop} {Kp:AV->St->Prop}
theorem p7.eF {a:AV} {ns:List Nd} (hk:p7 false [a] ns):a.eF=true/\aC a=[a]:=by
 generalize hb:false=b at hk
 generalize hl:[a]=la at hk
 cases hk with
 | mk _ _=>cases hl; exact ⟨rfl,rfl⟩
 | nil=>cases hl
 | cons _ _=>cases hb
end
end Go.Rip
namespace Go.Rip
open Go.Proofs Go.RowKit
section
variable {X:Rx} {aw U:St} {r k i:Nat} {kind:Int} {text:aY} {n m at_:Int} {l:List Nd} {R:cO->St->Prop} {K':AV->St->Prop} {Kp:AV->St->Prop} {w:aY}
structure Below (X:Rx) (fu:Nat):Prop where
 term:∀ f',f' <= fu->∀ j,j <= X.L.length->40 * (X.L.length - j)+11 <= f'->Ct X 109 j (Df X.L X.E f' j)
 first:∀ f',f' <= fu->∀ j,j <= X.L.length->40 * (X.L.length - j)+10 <= f'->Ct X 169 j (iQ X.L X.E f' j)
 oper:∀ f',f' <= fu->∀ j hO,j <= X.L.length->2 <= hO->hO <= 9->40 * (X.L.length - j)+(11 - hO) <= f'->Co X j hO (uD X.L X.E f' hO j)
 atom:∀ f',f' <= fu->∀ j,j <= X.L.length->40 * (X.L.length - j)+1 <= f'->Ct X 252 j (Uv X.L X.E f' j)
 arg:∀ f',f' <= fu->∀ j,j <= X.L.length->40 * (X.L.length - j)+12 <= f'->Ct X 269 j (DA X.L X.E f' j)
end
end Go.Rip
namespace Go.Rip
open Go.Proofs Go.RowKit
theorem lq {U:St} {b:Nat} {ks vs:List AV}:(U.set b (.mp ks vs)).mp b=some (ks,vs):=by simp [St.mp,dy]
theorem zn {U:St} {b:Nat} {ks vs:List AV}:(U.new b (.mp ks vs)).mp b=some (ks,vs):=by simp [St.mp,lG]
theorem LR {U af:St} {b:Nat} (h:af.live b=U.live b):af.mp b=U.mp b:=by simp [St.mp,h]
theorem dD.mp {U af:St} {b:Nat} {x:List AV × List AV} (h:dD U af) (k:U.mp b=some x):af.mp b=some x:=by
 cases e:U.live b with
 | none=>simp [St.mp,e] at k
 | some y=>rw [LR ((h b y e).trans e.symm)]; exact k
section
variable {X:Rx} {aw U:St} {r k i:Nat} {kind:Int} {text:aY} {n m at_:Int} {l:List Nd} {R:cO->St->Prop} {K':AV->St->Prop} {Kp:AV->St->Prop} {w:aY}
end
end Go.Rip
