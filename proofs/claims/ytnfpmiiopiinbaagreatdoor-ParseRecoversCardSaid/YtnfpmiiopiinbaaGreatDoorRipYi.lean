/- Lemmas for the proof: no conditions. -/
import Derived.Test.YtnfpmiiopiinbaaGreatDoorRipZz
import Derived.Test.YtnfpmiiopiinbaaGreatDoorRipYg
import Derived.Test.YtnfpmiiopiinbaaGreatDoorRipO
import Derived.Test.YtnfpmiiopiinbaaGreatDoorRipYf
import Derived.Test.YtnfpmiiopiinbaaGreatDoorRipE
import Derived.Test.YtnfpmiiopiinbaaGreatDoorRipP
import Derived.Test.YtnfpmiiopiinbaaGreatDoorRipYb
import Derived.Test.YtnfpmiiopiinbaaGreatDoorRipF
import Derived.Test.YtnfpmiiopiinbaaGreatDoorRipX
import Derived.Test.YtnfpmiiopiinbaaGreatDoorRipAw
import Derived.Test.YtnfpmiiopiinbaaGreatDoorRipYc
set_option linter.unusedVariables false
set_option linter.unusedSimpArgs false
set_option linter.loopingSimpArgs false
namespace Go.Rip
open Go.Proofs Go.RowKit
def Fz (U ad:St):Prop:=∀ c x,U.live c=some x->(∀ t,x=.tok t->t.e≠51)->ad.live c=some x
def TM (b:Nat) (U ad:St):Prop:=∀ c x,c≠b->U.live c=some x->(∀ t,x≠.tok t)->ad.live c=some x
section
variable {b c:Nat} {U az bF ad:St} {s t:aT} {R:cM->St->Prop}
theorem Fz.refl (U:St):Fz U U:=λ _ _ h _=>h
theorem Fz.trans (h:Fz U bF) (k:Fz bF ad):Fz U ad:=λ c x e t=>k c x (h c x e t) t
theorem Fz.pX (h:cG U ad):Fz U ad:=λ c x e _=>h c x e
theorem Fz.fr (h:Fz U ad):TM b U ad:=λ c x _ e t=>h c x e λ t' e'=>absurd e' (t t')
theorem TM.bf (h:TM b U ad) (n:c≠b) {y:List AV} (k:U.box c=some y):ad.box c=some y:=by
 cases e:U.live c with
 | none=>simp[St.box,e]at k
 | some x =>
   rw[dx ((h c x n e ?_).trans e.symm)]; exact k;intro t ht;subst ht;simp[St.box,e]at k
theorem Fz.bf (h:Fz U ad) {y:List AV} (k:U.box c=some y):ad.box c=some y:=(h.fr (b:=c+1)).bf (by omega) k
theorem Fz.tok (h:Fz U ad) {t:Tok} (ht:t.e≠51) (k:U.tok c=some t):ad.tok c=some t:=by
 cases e:U.live c with
 | none=>simp[St.tok,e]at k
 | some x =>
   rw[pI ((h c x e ?_).trans e.symm)]; exact k;intro t' qu;subst qu;simp[St.tok,e]at k;subst k;exact ht
end
end Go.Rip
namespace Go.Rip
theorem Kx {l:List Nd} (h:fC l=0):∃ t:Tre,l=t.flat/\t.kind=1/\t.ok=true/\t.flat.length<=900/\t.deep<=60/\t.kids.length<=24:=by
 have h9:¬ 900<l.length:=λ h'=>by unfold fC at h; rw[if_pos h']at h; cases h
 have:∃ t:Tre,l=t.flat/\t.kind=1/\t.ok=true:=Classical.not_not.1 λ h'=>by rw[um h9 h']at h; cases h
 obtain⟨t,rfl,h1,h2⟩:=this;refine⟨t,rfl,h1,h2,by omega,?_⟩;rw[vW t h9]at h;unfold yY at h;rw[if_neg (by simp[h1,h2])]at h;refine⟨Nat.le_of_not_lt λ h'=>?_,Nat.le_of_not_lt λ h'=>?_⟩
 . rw[if_pos (.inl h')]at h; cases h
 . rw[if_pos (.inr h')]at h; cases h
end Go.Rip
namespace Go.Rip
open Go.Proofs Go.RowKit
theorem JR {l:List Nd} (h:fC l=0):∀ x∈l,x.text.length<=12:=by
 obtain⟨t,rfl,_,h2,_⟩:=Kx h;have:=wS (Tre.br [t]).length [t] (cN _) (by simp[h2]);simpa using this
end Go.Rip
namespace Go.Rip
open Go.Proofs Go.RowKit
section
variable {gv:AV} {r:ay} {k:AV->Prop} {bt:BT} {b:Bool} {x y:Int} {i:IntKind}
theorem jc (hg:gv=.bool true) (h:ao K r k):af K gv r k:=by rw[hg]; exact pq h
theorem WU (h:¬ x<y) (hk:k (.bool false)):ao K (aw .lss bt b (.int i x) (.int i y)) k:=by rw[bX,aD,decide_eq_false h]; exact hk
theorem WS (h:¬ y<x) (hk:k (.bool false)):ao K (aw .gtr bt b (.int i x) (.int i y)) k:=by rw[eX,aD,decide_eq_false h]; exact hk
theorem tR (h:x=y) (hk:k (.bool false)):ao K (aw .neq bt b (.int i x) (.int i y)) k:=by rw[cP,aD,decide_eq_true h]; exact hk
theorem XN {U:St} {K' Kp:AV->St->Prop} (h:x≠y) (hk:K' (.bool false) U):(aw .eql bt b (.int i x) (.int i y)).wp K U K' Kp:=by rw[bw,ak,decide_eq_false h]; exact hk
theorem XO {U:St} {K' Kp:AV->St->Prop} (h:x=y) (hk:K' (.bool true) U):(aw .eql bt b (.int i x) (.int i y)).wp K U K' Kp:=by rw[bw,ak,decide_eq_true h]; exact hk
theorem Mg {s u:aT} (h:s=u) (hk:k (.bool false)):ao K (aw .neq bt b (.str s) (.str u)) k:=by rw[pB,aD,decide_eq_true h]; exact hk
theorem ve {U:St} {K' Kp:AV->St->Prop} {u w:AV} (hk:K' w U):(bu (.bool false) u w).wp K U K' Kp:=hk
theorem zD {U:St} {K' Kp:AV->St->Prop} {u w:AV} (hk:K' u U):(bu (.bool true) u w).wp K U K' Kp:=hk
theorem IS {v5:AV} {ks:List Nat} {c n e:Nat} {U:St} (hg:gv=.bool true) (hv:gx v5 ks.length (ia ks)) (hx:ks[c]?=some n) (h:k (.int .i64 (n:Nat))) :
 af K gv (aJ (some (e,1)) none v5 (.int .i64 (c:Nat))) λ p=>af K gv (ar (some (false,1)) p U) k:=by
 subst hg;simp only[aP,cn];exact Fu hv hx h
theorem Dp {v:AV} {l:List Nd} {n o:Nat} {x:Nd} {c:AV} {U:St} (hg:gv=.bool true) (h:mY U v l) (hx:l[n]?=some x) (hc:(df x)[o]?=some c) (hk:k c) :
 af K gv (aJ (some (43,6)) none v (.int .i64 (n:Nat))) λ p=>af K gv (ah (some o) p) λ q=>af K gv (ar (some (false,1)) q U) k:=by
 subst hg;exact aav h hx hc hk
theorem Dq {m:AV} {L l:List AV} {b1 o n:Nat} {U:St} (hg:gv=.bool true) (hb:U.box b1=some L) (hd:L.drop (o+n)=m::l) (h:k m) :
 af K gv (ah (some n) (.box b1 o)) λ p=>af K gv (ar (some (false,1)) p U) k:=by
 subst hg;simp only[aP,cn];exact kD (eL hb hd h)
end
end Go.Rip
