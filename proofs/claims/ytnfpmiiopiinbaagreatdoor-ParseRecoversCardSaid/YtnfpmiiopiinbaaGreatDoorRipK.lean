/- Lemmas for the proof: no conditions. -/
import Derived.Test.YtnfpmiiopiinbaaGreatDoorRipZz
import Derived.Test.YtnfpmiiopiinbaaGreatDoorRipI
set_option linter.unusedVariables false
set_option linter.unusedSimpArgs false
set_option linter.loopingSimpArgs false
namespace Go.Rip
inductive mS where
 | item|type|base|term|arg|kind (k:Int)
def gu (k:Int):Bool:=decide (9<=k/\k<=34)
def pe (k:Int):Bool:=decide (k=6\/k=7)
def tI (k:Int):Bool:=decide (k=6\/k=7\/k=8)
def om (k:Int):Bool:=decide (2<=k/\k<=4)
def pW (k:Int):Bool:=decide (9<=k/\k<=36)
def mS.is:mS->Int->Bool
 | .item,k=>om k
 | .type,k=>tI k
 | .base,k=>pe k
 | .term,k=>gu k
 | .arg,k=>pW k
 | .kind c,k=>decide (k=c)
structure lj where
 c:mS
 least:Nat
 nT:Nat
structure DK where
 text:Bool
 n:Bool
 m:Bool
 kids:List lj
def eI (k:Int):Option DK :=
 if k=1 then some ⟨false,false,false,[⟨.item,0,900⟩]⟩
 else if k=2 then some ⟨true,false,false,[⟨.type,1,1⟩]⟩
 else if k=3\/k=4 then some ⟨true,false,false,[⟨.kind 5,0,900⟩,⟨.base,1,1⟩,⟨.term,1,1⟩]⟩
 else if k=5 then some ⟨true,false,false,[⟨.type,1,1⟩]⟩
 else if k=6\/k=7 then some ⟨false,true,false,[]⟩
 else if k=8 then some ⟨false,false,false,[⟨.base,2,900⟩]⟩
 else if k=9 then some ⟨false,false,false,[⟨.term,2,900⟩]⟩
 else if k=10 then some ⟨false,false,false,[⟨.term,3,3⟩]⟩
 else if k=11\/k=15\/k=17\/k=18\/20<=k/\k<=24 then some ⟨false,false,false,[⟨.term,2,2⟩]⟩
 else if k=12 then some ⟨true,true,true,[⟨.term,1,1⟩]⟩
 else if k=13 then some ⟨true,false,false,[⟨.term,2,2⟩]⟩
 else if k=14 then some ⟨true,true,false,[⟨.term,1,1⟩]⟩
 else if k=16 then some ⟨true,false,false,[⟨.term,1,1⟩]⟩
 else if k=19 then some ⟨false,false,false,[⟨.term,1,1⟩]⟩
 else if k=25 then some ⟨false,true,false,[⟨.term,1,1⟩]⟩
 else if k=26 then some ⟨false,true,false,[]⟩
 else if 27<=k/\k<=30 then some ⟨false,false,false,[]⟩
 else if k=31\/k=32\/k=33\/k=37 then some ⟨true,false,false,[]⟩
 else if k=34 then some ⟨true,false,false,[⟨.arg,1,900⟩]⟩
 else if k=35 then some ⟨false,false,false,[⟨.kind 37,1,900⟩,⟨.term,1,1⟩]⟩
 else if k=36 then some ⟨false,false,false,[⟨.term,1,1⟩,⟨.kind 37,1,1⟩,⟨.term,1,1⟩]⟩
 else none
def gS:List Int->List lj->Bool
 | ks,[]=>ks.isEmpty
 | ks,s::rest =>
   let many:=((ks.take (min (ks.length-(rest.map (·.least)).sum) s.nT)).takeWhile s.c.is).length
   if many<s.least then false else gS (ks.drop many) rest
def jk (s:aT):Bool:=decide (fg s=(0,1,s))
def fJ (n:Int):Bool:=decide (0<=n/\n<=1000000)
def dv (x:Nd) (f:DK):Bool:=(f.text==(x.text != []))&&(!f.text||jk x.text)&&fJ x.n&&fJ x.m&&(f.n||x.n==0)&&(f.m||x.m==0)
inductive Tre where
 | mk (kind:Int) (text:aT) (n m at_:Int) (kids:List Tre)
namespace Tre
def kind:Tre->Int|mk k _ _ _ _ _=>k
def text:Tre->aT|mk _ t _ _ _ _=>t
def n:Tre->Int|mk _ _ n _ _ _=>n
def m:Tre->Int|mk _ _ _ m _ _=>m
def at_:Tre->Int|mk _ _ _ _ a _=>a
def kids:Tre->List Tre|mk _ _ _ _ _ ks=>ks
mutual
def flat:Tre->List Nd
 | mk k t n m a ks=>node k t n m a (br ks)
def br:List Tre->List Nd
 | []=>[]
 | t::ts=>flat t++br ts
end
mutual
def ok:Tre->Bool
 | mk k t n m a ks=>(match eI k with
   | some f=>dv ⟨k,t,n,m,a,0⟩ f&&gS (ks.map kind) f.kids
   | none=>false)&&pY ks
def pY:List Tre->Bool
 | []=>true
 | t::ts=>ok t&&pY ts
end
mutual
def deep:Tre->Nat
 | mk _ _ _ _ _ ks=>mG ks
def mG:List Tre->Nat
 | []=>0
 | t::ts=>max (deep t+1) (mG ts)
end
end Tre
abbrev Tx:=Nat×aT
def ub (s:aT):Tx:=(match s with|c::_=>if oH c then 3 else 4|[]=>4,s)
def uJ (k:Int):Nat :=
 if k=9 then 0 else if 10<=k/\k<=16 then 1 else if k=17 then 2 else if k=18 then 3 else if k=19 then 4 else if k=20\/k=21 then 5 else if k=22\/k=23 then 6 else if k=24 then 7 else if k=25 then 8 else 9
namespace Tre
end Tre
end Go.Rip
namespace Go.Rip
def eZ (l:List Nd) (en:Int):Nat->Nat->List Nat
 | 0,_=>[]
 | f+1,p=>match l[p]? with
   | some x=>if (p:Int)<en/\0<x.size then p::eZ l en f (p+x.size.toNat) else []
   | none=>[]
def iu:List Nd->Nat->List Int->Bool
 | [],_,_=>false
 | x::r,n,es=>if 60<(es.filter ((n:Int)<·)).length then true else iu r (n+1) (es.filter ((n:Int)<·)++[(n:Int)+x.size])
def ju (l:List Nd):Int:=match l with|x::_=>x.size|[]=>0
def ko (l:List Nd):Bool:=iu l 0 []||decide (24<(eZ l (ju l) l.length 1).length)
namespace Tre
theorem eB {k:Int} {t:aT} {n m a:Int} {ks:List Tre}:flat (mk k t n m a ks)=⟨k,t,n,m,a,((br ks).length:Int)+1⟩::br ks:=by rw[flat]; rfl
@[simp] theorem pS:br []=[]:=by rw[br]
@[simp] theorem cW {t:Tre} {ts:List Tre}:br (t::ts)=flat t++br ts:=by rw[br]
theorem jb:∀ (l l':List Tre),br (l++l')=br l++br l'
 | [],l'=>by simp
 | t::l,l'=>by simp[jb l l']
@[simp] theorem ade:pY []=true:=by rw[pY]
@[simp] theorem ry {t:Tre} {ts:List Tre}:pY (t::ts)=(ok t&&pY ts):=by rw[pY]
theorem mK:∀ (l l':List Tre),pY (l++l')=(pY l&&pY l')
 | [],l'=>by simp
 | t::l,l'=>by simp[mK l l',Bool.and_assoc]
@[simp] theorem SP {k:Int} {t:aT} {n m a:Int} {ks:List Tre}:deep (mk k t n m a ks)=mG ks:=by rw[deep]
@[simp] theorem nZ:mG []=0:=by rw[mG]
@[simp] theorem qB {t:Tre} {ts:List Tre}:mG (t::ts)=max (deep t+1) (mG ts):=by rw[mG]
theorem dU:∀ t:Tre,0<t.flat.length
 | mk k t n m a ks=>by rw[eB]; simp
theorem pR:∀ ts:List Tre,ts.length<=(br ts).length
 | []=>by simp
 | t::ts=>by
   have:=pR ts;have:=dU t;simp; omega
theorem kK:∀ t:Tre,∃ x r,t.flat=x::r/\x.kind=t.kind/\x.size=t.flat.length/\x.text=t.text/\x.n=t.n/\x.m=t.m/\x.at_=t.at_/\r=br t.kids
 | mk k t n m a ks=>⟨_,_,eB,rfl,by rw[eB]; simp,rfl,rfl,rfl,rfl,rfl⟩
theorem rZ:∀ (N:Nat) (ts rO:List Tre) (r r':List Nd),(br ts).length<=N->br ts++r=br rO++r'->(br ts).length=(br rO).length->ts=rO
 | N,[],[],_,_,_,_,_=>rfl
 | N,[],t::ts,_,_,_,_,h=>by have:=dU t; simp only[cW,pS,eG,sU]at h; omega
 | N,t::ts,[],_,_,_,_,h=>by have:=dU t; simp only[cW,pS,eG,sU]at h; omega
 | 0,t::ts,_,_,_,hN,_,_=>by have:=dU t; simp only[cW,eG]at hN; omega
 | N+1,mk k t n m a ks::ts,mk k' t' n' m' a' ks'::rO,r,r',hN,h,hl=>by
   simp only[cW,eB,gY,nu,List.cons.injEq,Nd.mk.injEq,lM,eG]at h hl hN;obtain⟨⟨rfl,rfl,rfl,rfl,rfl,hs⟩,h⟩:=h;have hs:(br ks).length=(br ks').length:=by omega
   have e:=rZ N ks ks' (br ts++r) (br rO++r') (by omega) h hs;subst e;have h2:=List.append_cancel_left h;have e:=rZ N ts rO r r' (by omega) h2 (by omega);rw[e]
theorem O6 {t t':Tre} (h:t.flat=t'.flat):t=t':=by
 have:=rZ (br [t]).length [t] [t'] [] [] (cN _) (by simp[h]) (by simp[h]);simpa using this
end Tre
def cr:Nat->List Tre->List Nat
 | _,[]=>[]
 | p,t::ts=>p::cr (p+t.flat.length) ts
theorem qp:∀ (p:Nat) (ts:List Tre),(cr p ts).length=ts.length
 | _,[]=>rfl
 | p,t::ts=>by simp[cr,qp]
def oz (l:List Nd) (p:Nat) (ts:List Tre):Prop:=∃ r,l.drop p=Tre.br ts++r
def fo (l:List Nd) (p:Nat) (t:Tre):Prop:=∃ r,l.drop p=t.flat++r
section
variable {l:List Nd} {p:Nat} {t:Tre} {ts:List Tre}
theorem oz.head (h:oz l p (t::ts)):fo l p t:=by
 obtain⟨r,h⟩:=h;exact⟨Tre.br ts++r,by rw[h]; simp⟩
theorem oz.tail (h:oz l p (t::ts)):oz l (p+t.flat.length) ts:=by
 obtain⟨r,h⟩:=h;refine⟨r,?_⟩;rw[<- List.drop_drop,h];simp
theorem fo.pP (h:fo l p t):∃ x,l[p]?=some x/\x.kind=t.kind/\x.size=t.flat.length/\x.text=t.text/\x.n=t.n/\x.m=t.m/\x.at_=t.at_:=by
 obtain⟨r,h⟩:=h;obtain⟨x,r',h1,h2,h3,h4,h5,h6,h7,h8⟩:=t.kK;refine⟨x,?_,h2,h3,h4,h5,h6,h7⟩;rw[h1]at h;have:(l.drop p)[0]?=some x:=by rw[h]; rfl
 simpa using this
theorem fo.le (h:fo l p t):p+t.flat.length<=l.length:=by
 obtain⟨r,h⟩:=h;have h':=congrArg List.length h;have:=t.dU;simp only[List.length_drop,eG]at h'; omega
theorem fo.kids (h:fo l p t):oz l (p+1) t.kids:=by
 obtain⟨r,h⟩:=h;obtain⟨x,r',h1,h2,h3,h4,h5,h6,h7,h8⟩:=t.kK;refine⟨r,?_⟩;rw[<- List.drop_drop,h,h1,h8];rfl
theorem nP (t:Tre):t.flat.length=(Tre.br t.kids).length+1:=by
 cases t with
 | mk k t n m a ks=>rw[Tre.eB]; rfl
theorem fo.whole (t:Tre):fo t.flat 0 t:=⟨[],by simp⟩
theorem CE:∀ (ts:List Tre) (p f:Nat),oz l p ts->ts.length<=f->eZ l ((p:Int)+(Tre.br ts).length) f p=cr p ts
 | [],p,0,h,hf=>rfl
 | [],p,f+1,h,hf=>by
   simp only[eZ,cr,Tre.pS,sU];split
   . rw[if_neg (by omega)]
   . rfl
 | t::ts,p,0,h,hf=>by simp at hf
 | t::ts,p,f+1,h,hf=>by
   obtain⟨x,hx,_,hs,_⟩:=h.head.pP;have hp:=t.dU;simp only[eZ,cr,hx];rw[if_pos (by simp; omega)];have:=CE ts (p+t.flat.length) f h.tail (by simp at hf; omega);have e:p+x.size.toNat=p+t.flat.length:=by omega
   rw[e,<- this];congr 2;simp; omega
theorem y9 (h:fo l p t):eZ l ((p:Int)+t.flat.length) l.length (p+1)=cr (p+1) t.kids:=by
 have:=CE t.kids (p+1) l.length h.kids (by
  have:=h.le;have:=nP t;have:=Tre.pR t.kids;omega)
 rw[<- this];have:=nP t;congr 1;omega
theorem x6:∀ (N:Nat) (ts:List Tre) (p:Nat),(Tre.br ts).length<=N->oz l p ts->∀ i,p<=i->i<p+(Tre.br ts).length->∃ t,fo l i t/\(Tre.pY ts=true->t.ok=true)
 | N,[],p,hN,h,i,h1,h2=>by simp at h2; omega
 | 0,t::ts,p,hN,h,i,h1,h2=>by have:=t.dU; simp only[Tre.cW,eG]at hN; omega
 | N+1,.mk k tx n m a ks::ts,p,hN,h,i,h1,h2=>by
   simp only[Tre.cW,Tre.eB,eG,lM]at hN h2
   by_cases he:i=p
   . subst he;refine⟨_,h.head,λ ho=>?_⟩;rw[Tre.ry,bV]at ho;exact ho.1
   . by_cases hi:i<p+((Tre.br ks).length+1)
     . obtain⟨t,ht,ho⟩:=x6 N ks (p+1) (by omega) h.head.kids i (by omega) (by omega);refine⟨t,ht,λ hk=>ho ?_⟩;rw[Tre.ry,Tre.ok]at hk;simp only[bV]at hk;exact hk.1.2
     . obtain⟨t,ht,ho⟩:=x6 N ts (p+(Tre.flat (.mk k tx n m a ks)).length) (by omega) h.tail i (by rw[Tre.eB]; simp; omega) (by rw[Tre.eB]; simp; omega);refine⟨t,ht,λ hk=>ho ?_⟩;rw[Tre.ry,bV]at hk;exact hk.2
end
theorem vu (l:List Nd) (n:Nat) (es:List Int):iu l n (es.filter ((n:Int)<·))=iu l n es:=by
 cases l with
 | nil=>rfl
 | cons x r=>simp only[iu,List.filter_filter,Bool.and_self]
theorem wi:∀ (N:Nat) (ts:List Tre) (n:Nat) (es:List Int) (r:List Nd),(Tre.br ts).length<=N->(∀ e∈es,(n:Int)+(Tre.br ts).length<=e) ->
 iu (Tre.br ts++r) n es=((decide (ts≠[])&&decide (60<es.length+(Tre.mG ts-1)))||iu r (n+(Tre.br ts).length) es)
 | N,[],n,es,r,hN,wk=>by simp
 | 0,t::ts,n,es,r,hN,wk=>by have:=t.dU; simp only[Tre.cW,eG]at hN; omega
 | N+1,.mk k tx a b c ks::ts,n,es,r,hN,wk=>by
   simp only[Tre.cW,Tre.eB,eG,lM]at hN wk;have hfe:es.filter ((n:Int)<·)=es:=by
    rw[List.filter_eq_self];intro e he;have:=wk e he;simp only[dJ];omega
   simp only[Tre.cW,Tre.eB,gY,nu,iu,hfe,Tre.qB,Tre.SP]
   by_cases yy:60<es.length
   . rw[if_pos yy];simp; omega
   . rw[if_neg yy];have h1:=wi N ks (n+1) (es++[(n:Int)+(((Tre.br ks).length:Int)+1)]) (Tre.br ts++r) (by omega) (λ e he=>by
      simp only[fN,lN]at he;rcases he with he|rfl
      . have:=wk e he; omega
      . omega)
     rw[h1];have h2:iu (Tre.br ts++r) (n+1+(Tre.br ks).length) (es++[(n:Int)+(((Tre.br ks).length:Int)+1)])=iu (Tre.br ts++r) (n+1+(Tre.br ks).length) es:=by
      rw[<- vu,<- vu (es:=es)];congr 1;rw[List.filter_append];have:List.filter (λ x=>decide (((n+1+(Tre.br ks).length:Nat):Int)<x)) [(n:Int)+(((Tre.br ks).length:Int)+1)]=[]:=by
       rw[List.filter_cons_of_neg,List.filter_nil];simp only[dJ]; omega
      rw[this,jn]
     rw[h2];have h3:=wi N ts (n+1+(Tre.br ks).length) es r (by omega) (λ e he=>by have:=wk e he; omega);rw[h3];have e1:n+1+(Tre.br ks).length+(Tre.br ts).length=n+((Tre.flat (.mk k tx a b c ks)).length+(Tre.br ts).length):=by rw[Tre.eB]; simp; omega
     have e2:n+((Tre.br ks).length+1+(Tre.br ts).length)=n+1+(Tre.br ks).length+(Tre.br ts).length:=by omega
     simp only[eG,lM,sU,e2,Tre.eB];rw[<- Bool.or_assoc];congr 1;rw[oP];have hd:ks=[]->Tre.mG ks=0:=λ e=>by rw[e,Tre.nZ]
     have vy:ts=[]->Tre.mG ts=0:=λ e=>by rw[e,Tre.nZ]
     have hdp:ks≠[]->0<Tre.mG ks:=λ e=>by
      cases ks with
      | nil=>exact absurd rfl e
      | cons t ks=>rw[Tre.qB]; omega
     have VC:ts≠[]->0<Tre.mG ts:=λ e=>by
      cases ts with
      | nil=>exact absurd rfl e
      | cons t ks=>rw[Tre.qB]; omega
     simp only[gX,bV,dJ,ne_eq,reduceCtorEq,not_false_eq_true,true_and]
     by_cases hk:ks=[]
     . have:=hd hk
       by_cases ht:ts=[]
       . have:=vy ht;rw[ht]at this;simp only[hk,ht,not_true,false_and,or_false,false_iff,Tre.nZ]; omega
       . have:=VC ht;simp only[hk,ht,not_true,false_and,false_or,not_false_eq_true,true_and,Tre.nZ]; omega
     . have:=hdp hk
       by_cases ht:ts=[]
       . simp only[hk,ht,not_true,false_and,or_false,not_false_eq_true,true_and,Tre.nZ]; omega
       . have:=VC ht;simp only[hk,ht,not_false_eq_true,true_and]; omega
     congr 1; omega
theorem Gv (t:Tre):iu t.flat 0 []=decide (60<t.deep):=by
 have:=wi t.flat.length [t] 0 [] [] (by simp) (by simp);simp only[Tre.cW,Tre.pS,jn,Tre.qB,Tre.nZ,ne_eq,reduceCtorEq,not_false_eq_true,dq,Bool.true_and,sU]at this;rw[this];simp only[iu,Bool.or_false];rw[oP]; simp only[dJ]; omega
theorem yp (t:Tre):ko t.flat=(decide (60<t.deep)||decide (24<t.kids.length)):=by
 unfold ko;rw[Gv];have h:=y9 (fo.whole t);have hs:ju t.flat=((0:Nat):Int)+t.flat.length:=by
  obtain⟨x,r,h1,_,h3,_⟩:=t.kK;rw[h1]at h3 ⊢;simp only[ju]; omega
 rw[hs,h,qp]
open Classical in
noncomputable def BU (l:List Nd):Option Tre:=if h:∃ t:Tre,l=t.flat then some h.choose else none
theorem Oi (t:Tre):BU t.flat=some t:=by
 unfold BU;have h:∃ t':Tre,t.flat=t'.flat:=⟨t,rfl⟩;rw[dif_pos h];have:=h.choose_spec;rw[<- Tre.O6 this]
theorem Oj {l:List Nd} {t:Tre} (h:BU l=some t):l=t.flat:=by
 unfold BU at h;split at h
 . rename_i h';have:=h'.choose_spec;cases h;exact this
 . cases h
def yY (t:Tre):Int:=if t.kind≠1\/t.ok=false then 4 else if 60<t.deep\/24<t.kids.length then 5 else 0
noncomputable def fC (l:List Nd):Int:=if 900<l.length then 5 else match BU l with|none=>4|some t=>yY t
theorem vW (t:Tre) (h:¬ 900<t.flat.length):fC t.flat=yY t:=by unfold fC; rw[if_neg h,Oi]
end Go.Rip
namespace Go.Rip
def pN (l:List Nd) (e:Nat):Nat->Nat->Nat
 | 0,p=>p
 | f+1,p=>if p<e then pN l e f (p+((l[p]?.map Nd.size).getD 0).toNat) else p
def eN (l:List Nd) (i:Nat):Nat:=((l[i]?.map Nd.size).getD 0).toNat
def zH (l:List Nd):Prop:=l≠[]/\ju l=l.length/\∀ (i:Nat) (x:Nd),l[i]?=some x->1<=x.size/\x.size<=(l.length:Int)-i
def Dg (l:List Nd):Prop:=zH l/\∀ (i:Nat) (x:Nd),l[i]?=some x->pN l (i+x.size.toNat) l.length (i+1)=i+x.size.toNat
theorem vi {l:List Nd} {e p:Nat} (h:¬ p<e):∀ f,pN l e f p=p
 | 0=>rfl
 | f+1=>by rw[pN,if_neg h]
theorem vg {l:List Nd} {e p f:Nat} {x:Nd} (hx:l[p]?=some x) (h:p<e):pN l e (f+1) p=pN l e f (p+x.size.toNat):=by
 rw[pN,if_pos h,hx]; rfl
theorem A9 {l:List Nd}:∀ (ts:List Tre) (p f:Nat),oz l p ts->ts.length<=f->pN l (p+(Tre.br ts).length) f p=p+(Tre.br ts).length
 | [],p,f,h,hf=>by rw[Tre.pS,vi (by simp)]; rfl
 | t::ts,p,0,h,hf=>by simp at hf
 | t::ts,p,f+1,h,hf=>by
   obtain⟨x,hx,_,hs,_⟩:=h.head.pP;have hp:=t.dU;rw[vg hx (by simp; omega)];have:=A9 ts (p+t.flat.length) f h.tail (by simp at hf; omega);have e:p+x.size.toNat=p+t.flat.length:=by omega
   have e2:p+(Tre.br (t::ts)).length=p+t.flat.length+(Tre.br ts).length:=by simp; omega
   rw[e,e2,this]
theorem JU (t:Tre):Dg t.flat:=by
 have sub:∀ i x,t.flat[i]?=some x->∃ t',fo t.flat i t':=λ i x hx=>by
  have hi:=(dp.1 hx).1;obtain⟨t',h,_⟩:=x6 (l:=t.flat) t.flat.length [t] 0 (by simp) ⟨[],by simp⟩ i (by omega) (by simpa using hi);exact⟨t',h⟩
 refine⟨⟨?_,?_,λ i x hx=>?_⟩,λ i x hx=>?_⟩
 . have:=t.dU;intro e; rw[e]at this; simp at this
 . obtain⟨x,r,h1,_,h3,_⟩:=t.kK;rw[h1]at h3 ⊢; exact h3
 . obtain⟨t',h⟩:=sub i x hx;obtain⟨y,hy,_,hs,_⟩:=h.pP;rw[hx]at hy; cases hy;have:=h.le;have:=t'.dU;omega
 . obtain⟨t',h⟩:=sub i x hx;obtain⟨y,hy,_,hs,_⟩:=h.pP;rw[hx]at hy; cases hy;have hl:=nP t';have:=A9 t'.kids (i+1) t.flat.length h.kids (by
    have:=h.le;have:=Tre.pR t'.kids;omega)
   have e:i+x.size.toNat=i+1+(Tre.br t'.kids).length:=by omega
   rw[e]; exact this
theorem xn {l:List Nd} (hs:Dg l):∀ (N i e f:Nat),e-i<=N->i<=e->e<=l.length->e-i<=f->pN l e f i=e->∃ ts,l.drop i=Tre.br ts++l.drop e/\(Tre.br ts).length=e-i
 | N,i,e,f,hN,Re,he,hf,hw=>by
   by_cases h:i=e
   . subst h; exact⟨[],by simp,by simp⟩
   . cases N with
     | zero=>omega
     | succ N =>
     cases f with
     | zero=>omega
     | succ f =>
     obtain⟨x,hx⟩:∃ x,l[i]?=some x:=⟨l[i]'(by omega),by simp⟩;have Wg:=hs.1.2.2 i x hx;rw[vg hx (by omega)]at hw;have hse:i+x.size.toNat<=e:=by
      rcases gI e (i+x.size.toNat) with h1|h1
      . rw[vi (by omega)]at hw; omega
      . exact h1
     obtain⟨ks,k1,k2⟩:=xn hs N (i+1) (i+x.size.toNat) l.length (by omega) (by omega) (by omega) (by omega) (hs.2 i x hx);obtain⟨ts,t1,t2⟩:=xn hs N (i+x.size.toNat) e f (by omega) hse he (by omega) hw;have Rw:(Tre.mk x.kind x.text x.n x.m x.at_ ks).flat=x::Tre.br ks:=by
      rw[Tre.eB];have:((Tre.br ks).length:Int)+1=x.size:=by omega
      rw[this]
     refine⟨.mk x.kind x.text x.n x.m x.at_ ks::ts,?_,?_⟩
     . have hd:l.drop i=x::l.drop (i+1):=by
        rw[iq (by omega)];have:=(dp.1 hx).2;rw[this]
       rw[hd,k1,t1,Tre.cW,Rw];simp
     . rw[Tre.cW,Rw]; simp; omega
theorem CY (l:List Nd):Dg l↔∃ t:Tre,l=t.flat:=by
 refine⟨λ h=>?_,λ ⟨t,ht⟩=>ht▸JU t⟩;cases l with
 | nil=>exact absurd rfl h.1.1
 | cons x r =>
   have hsz:x.size=(r.length:Int)+1:=by have:=h.1.2.1; simpa [ju] using this
   have hw:=h.2 0 x rfl;obtain⟨ks,k1,k2⟩:=xn h r.length 1 (r.length+1) (r.length+1) (by omega) (by omega) (by simp) (by omega) (by
    have e:0+x.size.toNat=r.length+1:=by omega
    rw[e]at hw; exact hw)
   refine⟨.mk x.kind x.text x.n x.m x.at_ ks,?_⟩;rw[Tre.eB];have hr:r=Tre.br ks:=by
    have:(x::r).drop 1=r:=rfl;rw[this,List.drop_of_length_le (by simp),jn]at k1;exact k1
   rw[<- hr,<- hsz]
end Go.Rip
namespace Go.Rip
mutual
def vZ:Nat->Tre->List Nat
 | d,.mk _ _ _ _ _ ks=>d::oB (d+1) ks
def oB:Nat->List Tre->List Nat
 | _,[]=>[]
 | d,t::ts=>vZ d t++oB d ts
end
@[simp] theorem Zq {d:Nat}:oB d []=[]:=by rw[oB]
@[simp] theorem IF {d:Nat} {t:Tre} {ts:List Tre}:oB d (t::ts)=vZ d t++oB d ts:=by rw[oB]
theorem Bl {d:Nat} {k:Int} {t:aT} {n m a:Int} {ks:List Tre}:vZ d (.mk k t n m a ks)=d::oB (d+1) ks:=by rw[vZ]
theorem qU:∀ (N:Nat) (ts:List Tre) (d:Nat),(Tre.br ts).length<=N->(oB d ts).length=(Tre.br ts).length
 | _,[],_,_=>by simp
 | 0,t::ts,_,h=>by have:=t.dU; simp only[Tre.cW,eG]at h; omega
 | N+1,.mk k t n m a ks::ts,d,h=>by
   simp only[Tre.cW,Tre.eB,eG,lM]at h;have h1:=qU N ks (d+1) (by omega);have h2:=qU N ts d (by omega);simp only[IF,Bl,Tre.cW,Tre.eB,eG,lM,h1,h2]
theorem Gr (d:Nat) (t:Tre):(vZ d t).length=t.flat.length:=by
 have:=qU _ [t] d (cN _);simpa using this
def qQ (D:List Nat) (p d:Nat) (ts:List Tre):Prop:=∃ r,D.drop p=oB d ts++r
section
variable {l:List Nd} {D:List Nat} {p d:Nat} {t:Tre} {ts:List Tre}
theorem qQ.pP (h:qQ D p d (t::ts)):D[p]?=some d:=by
 obtain⟨r,h⟩:=h;have:(D.drop p)[0]?=some d:=by
  rw[h];cases t;simp[Bl]
 simpa using this
theorem qQ.tail (h:qQ D p d (t::ts)):qQ D (p+t.flat.length) d ts:=by
 obtain⟨r,h⟩:=h;refine⟨r,?_⟩;rw[<- List.drop_drop,h,<- Gr d t];simp
theorem qQ.kids (h:qQ D p d (t::ts)):qQ D (p+1) (d+1) t.kids:=by
 obtain⟨r,h⟩:=h;cases t with
 | mk k tx n m a ks =>
 refine⟨oB d ts++r,?_⟩;rw[<- List.drop_drop,h];simp[Bl,Tre.kids]
theorem wV:∀ (N:Nat) (ts:List Tre) (p d:Nat),(Tre.br ts).length<=N->oz l p ts->qQ D p d ts->∀ i,p<=i->i<p+(Tre.br ts).length ->
 (∃ s e,fo l i s/\D[i]?=some e/\qQ D (i+1) (e+1) s.kids/\e+p<=d+i)/\(i∈cr p ts\/∃ i' s',p<=i'/\i'<i/\fo l i' s'/\i∈cr (i'+1) s'.kids)
 | N,[],p,d,hN,h,hd,i,h1,h2=>by simp at h2; omega
 | 0,t::ts,p,d,hN,h,hd,i,h1,h2=>by have:=t.dU; simp only[Tre.cW,eG]at hN; omega
 | N+1,t::ts,p,d,hN,h,hd,i,h1,h2=>by
   have En:=nP t;simp only[Tre.cW,eG]at hN h2
   by_cases he:i=p
   . subst he;exact⟨⟨t,d,h.head,hd.pP,hd.kids,cN _⟩,.inl (by simp[cr])⟩
   . by_cases hi:i<p+t.flat.length
     . obtain⟨⟨s,e,a1,a2,a3,a4⟩,b⟩:=wV N t.kids (p+1) (d+1) (by omega) h.head.kids hd.kids i (by omega) (by omega);refine⟨⟨s,e,a1,a2,a3,by omega⟩,.inr ?_⟩;rcases b with b|⟨i',s',b1,b2,b3⟩
       . exact⟨p,t,cN _,by omega,h.head,b⟩
       . exact⟨i',s',by omega,b2,b3⟩
     . have:=t.dU;obtain⟨⟨s,e,a1,a2,a3,a4⟩,b⟩:=wV N ts (p+t.flat.length) d (by omega) h.tail hd.tail i (by omega) (by omega);refine⟨⟨s,e,a1,a2,a3,by omega⟩,?_⟩;rcases b with b|⟨i',s',b1,b2,b3⟩
       . exact .inl (by simp[cr,b])
       . exact .inr ⟨i',s',by omega,b2,b3⟩
end
theorem place (t:Tre) {i:Nat} (hi:i<t.flat.length):(∃ s e,fo t.flat i s/\(vZ 0 t)[i]?=some e/\qQ (vZ 0 t) (i+1) (e+1) s.kids/\e<=i)/\(i=0\/∃ i' s',i'<i/\fo t.flat i' s'/\i∈cr (i'+1) s'.kids):=by
 obtain⟨⟨s,e,a1,a2,a3,a4⟩,b⟩:=wV (l:=t.flat) (D:=vZ 0 t) t.flat.length [t] 0 0 (by simp) ⟨[],by simp⟩ ⟨[],by simp⟩ i (by omega) (by simpa using hi);refine⟨⟨s,e,a1,a2,a3,by omega⟩,?_⟩;rcases b with b|⟨i',s',b1,b2,b3⟩
 . simp only[cr,fe,List.not_mem_nil,or_false]at b;exact .inl b
 . exact .inr ⟨i',s',b2,b3⟩
theorem fo.inj {l:List Nd} {i:Nat} {s s':Tre} (h:fo l i s) (k:fo l i s'):s=s':=by
 obtain⟨r,h1⟩:=h;obtain⟨r',h2⟩:=k;obtain⟨x,hx,_,hs,_⟩:=fo.pP ⟨r,h1⟩;obtain⟨x',jG,_,dK,_⟩:=fo.pP ⟨r',h2⟩;rw[hx]at jG; cases jG;have:=Tre.rZ s.flat.length [s] [s'] r r' (by simp) (by simpa using h1.symm.trans h2) (by simp; omega);simpa using this
end Go.Rip
