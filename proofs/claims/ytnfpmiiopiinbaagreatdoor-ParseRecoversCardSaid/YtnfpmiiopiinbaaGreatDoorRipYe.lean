/- Lemmas for the proof: no conditions. -/
import Derived.Test.YtnfpmiiopiinbaaGreatDoorRipZz
import Derived.Test.YtnfpmiiopiinbaaGreatDoorRipK
import Derived.Test.YtnfpmiiopiinbaaGreatDoorRipX
set_option linter.unusedVariables false
set_option linter.unusedSimpArgs false
set_option linter.loopingSimpArgs false
namespace Go.Rip
def tx (t:Tk):Tx:=(t.k,t.s)
def bz (l:List Nd):List Nd:=l.map λ x=>{ x with at_:=0 }
def At (L:List Tk) (i:Nat) (l:List Tx):Prop:=∃ r,(L.drop i).map tx=l++r
section
variable {L:List Tk} {E i j:Nat} {l l' a b:List Tx} {x:Tx} {w:aT}
theorem At.cons (h:At L i (x::l)):(∃ t,L[i]?=some t/\tx t=x)/\At L (i+1) l:=by
 obtain⟨r,h⟩:=h;have h0:=congrArg (λ z:List Tx=>z[0]?) h;simp only[jB,List.getElem?_drop,Nat.add_zero,gY,List.getElem?_cons_zero]at h0;have h1:=congrArg (λ z:List Tx=>z.drop 1) h;simp only[gY,List.drop_succ_cons,dN,<- List.map_drop,List.drop_drop]at h1;refine⟨?_,r,h1⟩;cases ht:L[i]? with
 | none=>rw[ht]at h0; cases h0
 | some t=>rw[ht]at h0; exact⟨t,rfl,by simpa using h0⟩
def Fo (L:List Tk) (lev j:Nat):Prop:=(∀ l',lev<=l'->oM L l' j=none)/\bB L j jx=false/\bB L j cJ=false
def FoT (L:List Tk) (j:Nat):Prop:=Fo L 2 j/\¬ (bB L j j9=true/\j+1<L.length/\dW L (j+1)=false)
end
end Go.Rip
namespace Go.Rip
def aam:List Tx:=[ub zC,ub pA,ub yh,ub qO,ub py,ub pz]
def aal:List Tx:=[ub Gb,ub yf,ub ep,ub fA,ub ef]
def TxK (x:Tx):Prop:=x.1=1\/x.1=2\/x=ub x.2
abbrev aa8 (y:Tx):Prop:=((y.1==3||y.1==4)&&y.2==cJ)=false
def Hd (lev:Nat) (l:List Tx):Prop:=∃ x r,l=x::r/\TxK x/\x∉aal/\(2<=lev->x∉aam/\(x.1=1->∀ y r',r=y::r'->aa8 y))/\(5<=lev->x≠ub DI)
section
variable {L:List Tk} {E:Nat}
def Rd (L:List Tk) (p:Nat->PR (List Nd)) (c i j:Nat) (T:List Nd):Prop:=∀ f,40*(L.length-i)+c<=f->∃ ns,bz ns=bz T/\p f=.ok ns j
variable (L E) in
def aaf (lev:Nat) (l:List Tx) (T:List Nd):Prop:=∀ i,At L i l->Fo L lev (i+l.length)->Rd L (λ f=>eT L E f lev i) (11-lev) i (i+l.length) T
variable (L E) in
def aae (lev:Nat) (l:List Tx) (T:List Nd):Prop:=∀ i,At L i l->Fo L (lev+1) (i+l.length)->∀ f,40*(L.length-i)+(11-lev)<=f->∃ ns f',bz ns=bz T/\40*(L.length-(i+l.length))+1<=f'/\eT L E f lev i=jS L E f' lev ns (i+l.length)
variable (L E) in
def SF (l:List Tx) (T:List Nd):Prop:=∀ i,At L i l->Fo L 2 (i+l.length)->Rd L (λ f=>bU L E f i) 10 i (i+l.length) T
variable (L E) in
def TQ (l:List Tx) (T:List Nd):Prop:=∀ i,At L i l->FoT L (i+l.length)->Rd L (λ f=>fX L E f i) 11 i (i+l.length) T
variable {l:List Tx} {T:List Nd} {lev:Nat}
structure Good (L:List Tk) (E:Nat) (k:Int) (l:List Tx) (T:List Nd):Prop where
 term:TQ L E l T
 first:k≠9->SF L E l T
 op:2<=uJ k->aaf L E (uJ k) l T
 ch:uJ k=2\/uJ k=3\/uJ k=6\/uJ k=7\/uJ k=8->aae L E (uJ k) l T
 hd:Hd (uJ k) l
end
end Go.Rip
namespace Go.Rip
@[simp] theorem aan {α β:Type} {a:α} {i:Nat} {f:α->Nat->PR β}:(PR.ok a i).bind f=f a i:=rfl
end Go.Rip
