import Derived.Test.YtnfpmiiopiinbaaGreatDoorI
set_option linter.all false
namespace Go.Rip
inductive ku where
 | item|type|base|term|arg|kind (k:Int)
def cP(k:Int):Bool:=decide (9<=k/\k<=34)
def jH(k:Int):Bool:=decide (k=6\/k=7)
def fJ(k:Int):Bool:=decide (k=6\/k=7\/k=8)
def jI(k:Int):Bool:=decide (2<=k/\k<=4)
def lh(k:Int):Bool:=decide (9<=k/\k<=36)
def ku.is:ku->Int->Bool
 | .item,k=>jI k
 | .type,k=>fJ k
 | .base,k=>jH k
 | .term,k=>cP k
 | .arg,k=>lh k
 | .kind c,k=>decide (k=c)
structure nq where
 c:ku
 least:Nat
 ph:Nat
structure iQ where
 text:Bool
 n:Bool
 m:Bool
 kids:List nq
def bS(k:Int):Option iQ :=
 if k=1 then some ⟨false,false,false,[⟨.item,0,900⟩]⟩
 else if k=2 then some ⟨true,false,false,[⟨.type,1,1⟩]⟩
 else if k=3\/k=4 then some ⟨true,false,false,[⟨.kind 5,0,900⟩,⟨.base,1,1⟩,⟨.term,1,1⟩]⟩
 else if k=5 then some ⟨true,false,false,[⟨.type,1,1⟩]⟩
 else if k=6\/k=7 then some ⟨false,true,false,[]⟩
 else if k=8 then some ⟨false,false,false,[⟨.base,2,900⟩]⟩
 else if k=9 then some ⟨false,false,false,[⟨.term,2,900⟩]⟩
 else if k=10 then some ⟨false,false,false,[⟨.term,3,3⟩]⟩
 else if k=11\/k=15\/k=17\/k=18\/20<=k/\k<=24 then some ⟨false,false,false,[⟨.term,2,2⟩]⟩
 else if k=12 then some ⟨true,true,true,[⟨.term,1,1⟩]⟩
 else if k=13 then some ⟨true,false,false,[⟨.term,2,2⟩]⟩
 else if k=14 then some ⟨true,true,false,[⟨.term,1,1⟩]⟩
 else if k=16 then some ⟨true,false,false,[⟨.term,1,1⟩]⟩
 else if k=19 then some ⟨false,false,false,[⟨.term,1,1⟩]⟩
 else if k=25 then some ⟨false,true,false,[⟨.term,1,1⟩]⟩
 else if k=26 then some ⟨false,true,false,[]⟩
 else if 27<=k/\k<=30 then some ⟨false,false,false,[]⟩
 else if k=31\/k=32\/k=33\/k=37 then some ⟨true,false,false,[]⟩
 else if k=34 then some ⟨true,false,false,[⟨.arg,1,900⟩]⟩
 else if k=35 then some ⟨false,false,false,[⟨.kind 37,1,900⟩,⟨.term,1,1⟩]⟩
 else if k=36 then some ⟨false,false,false,[⟨.term,1,1⟩,⟨.kind 37,1,1⟩,⟨.term,1,1⟩]⟩
 else none
def dB:List Int->List nq->Bool
 | ks,[]=>ks.isEmpty
 | ks,s::rest =>
   let many:=((ks.take (min (ks.length-(rest.map (·.least)).sum) s.ph)).takeWhile s.c.is).length
   if many<s.least then false else dB (ks.drop many) rest
def gr(s:aT):Bool:=decide (hY s=(0,1,s))
def ek(n:Int):Bool:=decide (0<=n/\n<=1000000)
def fx(x:Nd)(f:iQ):Bool:=(f.text==(x.text != []))&&(!f.text||gr x.text)&&ek x.n&&ek x.m&&(f.n||x.n==0)&&(f.m||x.m==0)
inductive Tre where
 | mk (kind:Int) (text:aT) (n m at_:Int) (kids:List Tre)
namespace Tre
def kind:Tre->Int|mk k _ _ _ _ _=>k
def text:Tre->aT|mk _ t _ _ _ _=>t
def n:Tre->Int|mk _ _ n _ _ _=>n
def m:Tre->Int|mk _ _ _ m _ _=>m
def at_:Tre->Int|mk _ _ _ _ a _=>a
def kids:Tre->List Tre|mk _ _ _ _ _ ks=>ks
mutual
def flat:Tre->List Nd
 | mk k t n m a ks=>node k t n m a (cH ks)
def cH:List Tre->List Nd
 | []=>[]
 | t::ts=>flat t++cH ts
end
mutual
def ok:Tre->Bool
 | mk k t n m a ks=>(match bS k with
   | some f=>fx ⟨k,t,n,m,a,0⟩ f&&dB (ks.map kind) f.kids
   | none=>false)&&wk ks
def wk:List Tre->Bool
 | []=>true
 | t::ts=>ok t&&wk ts
end
mutual
def deep:Tre->Nat
 | mk _ _ _ _ _ ks=>oV ks
def oV:List Tre->Nat
 | []=>0
 | t::ts=>max (deep t+1) (oV ts)
end
end Tre
abbrev Tx:=Nat×aT
def bo(s:aT):Tx:=(match s with|c::_=>if lY c then 3 else 4|[]=>4,s)
def fp(s:aT):Tx:=(1,s)
def lI:Nat->Nat->aT
 | 0,_=>[]
 | f+1,n=>if n<10 then [(48+n).toUInt8] else lI f (n / 10)++[(48+n%10).toUInt8]
def mZ(n:Int):aT:=lI 20 n.toNat
def kL(n:Int):Tx:=(2,mZ n)
def er(k:Int):Nat :=
 if k=9 then 0 else if 10<=k/\k<=16 then 1 else if k=17 then 2 else if k=18 then 3 else if k=19 then 4 else if k=20\/k=21 then 5 else if k=22\/k=23 then 6 else if k=24 then 7 else if k=25 then 8 else 9
def sa(k:Int):aT :=
 if k=17 then wL else if k=18 then sY else if k=20 then gH else if k=21 then pX else if k=22 then pW else if k=23 then oY else if k=24 then qO else su
def dY(k:Int)(least:Nat)(l:List Tx):List Tx:=if least<=er k then l else bo dM::l++[bo dE]
def eH(w:aT):List (List Tx)->List Tx
 | []=>[]
 | [l]=>l
 | l::m::ls=>l++bo w::eH w (m::ls)
def c8(k:Int)(t:aT)(n m:Int)(ks:List (Int×List Tx)):List Tx :=
 let g (i:Nat):List Tx:=(ks.getD i (0,[])).2;let b (least i:Nat):List Tx:=dY (ks.getD i (0,[])).1 least (g i);let all:=ks.map (·.2)
 if k=2 then bo eD::fp t::bo ef::g 0++[bo dF]
 else if k=3\/k=4 then bo (if k=3 then jc else eW)::fp t::bo dM::eH ep (all.take (ks.length-2))++bo dE::bo ef::g (ks.length-2)++bo gH::g (ks.length-1)++[bo dF]
 else if k=5 then fp t::bo ef::g 0
 else if k=6 then (if n=1 then [bo vR] else if n=2 then [bo sN] else [bo lq,kL n])
 else if k=7 then [bo kh,kL n]
 else if k=8 then bo dM::eH ep (all.take (ks.length-1))++bo dE::bo gn::g (ks.length-1)
 else if k=9 then eH dF (ks.map λx=>dY x.1 1 x.2)
 else if k=10 then bo uy::b 1 0++bo qi::b 1 1++bo gh::b 1 2
 else if k=11 then bo lU::b 1 0++bo vr::b 1 1
 else if k=12 then bo qQ::fp t::bo ef::kL n::bo bY::kL m::bo jQ::b 1 0
 else if k=13 then bo mJ::fp t::bo jQ::b 1 0++bo gh::b 1 1
 else if k=14 then bo jR::fp t::bo bY::kL n::bo jQ::b 1 0
 else if k=15 then bo jz::b 1 0++bo gh::b 1 1
 else if k=16 then fp t::bo bY::b 1 0
 else if k=19 then bo uA::b 4 0
 else if k=25 then b 8 0++[bo su,kL n]
 else if 17<=k/\k<=24 then b (if er k=5 then 6 else er k) 0++bo (sa k)::b (er k+1) 1
 else if k=26 then [kL n]
 else if k=27 then [bo eA]
 else if k=28 then [bo eK]
 else if k=29 then [bo gG]
 else if k=30 then [bo iZ]
 else if k=31 then [bo lL,fp t]
 else if k=32 then [bo ni,fp t]
 else if k=33\/k=37 then [fp t]
 else if k=34 then fp t::bo dM::eH ep all++[bo dE]
 else if k=35 then bo wJ::bo dM::eH ep (all.take (ks.length-1))++bo dE::b 1 (ks.length-1)
 else if k=36 then bo qP::bo vS::b 1 0++bo dF::bo uB::g 1++bo sW::b 1 2++[bo sX]
 else []
namespace Tre
mutual
def pr:Tre->List Tx
 | mk k t n m _ ks=>c8 k t n m (Vi ks)
def Vi:List Tre->List (Int×List Tx)
 | []=>[]
 | t::ts=>(t.kind,pr t)::Vi ts
end
end Tre
def p5(a b:Tx):Bool:=(a.1 != 4&&b.1 != 4)||(a.2==ef&&b.2==gH)
def gE:List Tx->aT
 | []=>[]
 | [a]=>a.2
 | a::b::l=>a.2++(if p5 a b then [32] else [])++gE (b::l)
def eU(l:List Tx):aT×Int:=if 900<l.length then ([],5) else if 2500<(gE l).length then ([],5) else (gE l,0)
end Go.Rip
namespace Go.Rip
def ix(l:List Nd)(en:Int):Nat->Nat->List Nat
 | 0,_=>[]
 | f+1,p=>match l[p]? with
   | some x=>if (p:Int)<en/\0<x.size then p::ix l en f (p+x.size.toNat) else []
   | none=>[]
def mS:List Nd->Nat->List Int->Bool
 | [],_,_=>false
 | x::r,n,es=>if 60<(es.filter ((n:Int)<·)).length then true else mS r (n+1) (es.filter ((n:Int)<·)++[(n:Int)+x.size])
def oD(l:List Nd):Int:=match l with|x::_=>x.size|[]=>0
def qX(l:List Nd):Bool:=mS l 0 []||decide (24<(ix l (oD l) l.length 1).length)
namespace Tre
def gQ{k:Int}{t:aT}{n m a:Int}{ks:List Tre}:flat (mk k t n m a ks)=⟨k,t,n,m,a,((cH ks).length:Int)+1⟩::cH ks:=by rw[flat];rfl
@[simp] theorem wb:cH []=[]:=by rw[cH]
@[simp] theorem dT{t:Tre}{ts:List Tre}:cH (t::ts)=flat t++cH ts:=by rw[cH]
def pb:∀(l l':List Tre),cH (l++l')=cH l++cH l'
 | [],l'=>by simp
 | t::l,l'=>by simp[pb l l']
@[simp] theorem akN:wk []:=by rw[wk]
@[simp] theorem u9{t:Tre}{ts:List Tre}:wk (t::ts)=(ok t&&wk ts):=by rw[wk]
def uk:∀(l l':List Tre),wk (l++l')=(wk l&&wk l')
 | [],l'=>by simp
 | t::l,l'=>by simp[uk l l',Bool.and_assoc]
@[simp] theorem Pq{k:Int}{t:aT}{n m a:Int}{ks:List Tre}:deep (mk k t n m a ks)=oV ks:=by rw[deep]
@[simp] theorem mg:oV []=0:=by rw[oV]
@[simp] theorem pH{t:Tre}{ts:List Tre}:oV (t::ts)=max (deep t+1) (oV ts):=by rw[oV]
def eC:∀t:Tre,0<t.flat.length
 | mk k t n m a ks=>by rw[gQ];simp
def pA:∀ts:List Tre,ts.length<=(cH ts).length
 | []=>by simp
 | t::ts=>by
   have:=pA ts;have:=eC t;simp;omega
def tB:∀t:Tre,∃x r,t.flat=x::r/\x.kind=t.kind/\x.size=t.flat.length/\x.text=t.text/\x.n=t.n/\x.m=t.m/\x.at_=t.at_/\r=cH t.kids
 | mk k t n m a ks=>⟨_,_,gQ,rfl,by rw[gQ];simp,rfl,rfl,rfl,rfl,rfl⟩
def yP:∀(N:Nat)(ts QF:List Tre)(r r':List Nd),(cH ts).length<=N->cH ts++r=cH QF++r'->(cH ts).length=(cH QF).length->ts=QF
 | N,[],[],_,_,_,_,_=>rfl
 | N,[],t::ts,_,_,_,_,h=>by have:=eC t;simp only[dT,wb,dx,nQ]at h;omega
 | N,t::ts,[],_,_,_,_,h=>by have:=eC t;simp only[dT,wb,dx,nQ]at h;omega
 | 0,t::ts,_,_,_,hN,_,_=>by have:=eC t;simp only[dT,dx]at hN;omega
 | N+1,mk k t n m a ks::ts,mk k' t' n' m' a' ks'::QF,r,r',hN,h,hl=>by
   simp only[dT,gQ,ke,lG,List.cons.injEq,Nd.mk.injEq,jm,dx]at h hl hN;obtain⟨⟨rfl,rfl,rfl,rfl,rfl,hs⟩,h⟩:=h;have hs:(cH ks).length=(cH ks').length:=by omega
   have e:=yP N ks ks' (cH ts++r) (cH QF++r') d6 h hs;subst e;have h2:=List.append_cancel_left h;have e:=yP N ts QF r r' d6 h2 d6;rw[e]
def LP{t t':Tre}(h:t.flat=t'.flat):t=t':=by
 have:=yP (cH [t]).length [t] [t'] [] [] (da _) (by simp[h]) (by simp[h]);simpa using this
end Tre
def bH:Nat->List Tre->List Nat
 | _,[]=>[]
 | p,t::ts=>p::bH (p+t.flat.length) ts
def iw:∀(p:Nat)(ts:List Tre),(bH p ts).length=ts.length
 | _,[]=>rfl
 | p,t::ts=>by simp[bH,iw]
def sf(l:List Nd)(p:Nat)(ts:List Tre):Prop:=∃r,l.drop p=Tre.cH ts++r
def dP(l:List Nd)(p:Nat)(t:Tre):Prop:=∃r,l.drop p=t.flat++r
section
variable {l:List Nd}{p:Nat}{t:Tre}{ts:List Tre}
def sf.head(h:sf l p (t::ts)):dP l p t:=by
 obtain⟨r,h⟩:=h;exact⟨Tre.cH ts++r,by rw[h];simp⟩
def sf.tail(h:sf l p (t::ts)):sf l (p+t.flat.length) ts:=by
 obtain⟨r,h⟩:=h;refine⟨r,?_⟩;rw[<-List.drop_drop,h];simp
def dP.oS(h:dP l p t):∃x,l[p]?=some x/\x.kind=t.kind/\x.size=t.flat.length/\x.text=t.text/\x.n=t.n/\x.m=t.m/\x.at_=t.at_:=by
 obtain⟨r,h⟩:=h;obtain⟨x,r',h1,h2,h3,h4,h5,h6,h7,h8⟩:=t.tB;refine⟨x,?_,h2,h3,h4,h5,h6,h7⟩;rw[h1]at h;have:(l.drop p)[0]?=some x:=by rw[h];rfl
 simpa using this
def dP.le(h:dP l p t):p+t.flat.length<=l.length:=by
 obtain⟨r,h⟩:=h;have h':=congrArg List.length h;have:=t.eC;simp only[List.length_drop,dx]at h';omega
def dP.kids(h:dP l p t):sf l (p+1) t.kids:=by
 obtain⟨r,h⟩:=h;obtain⟨x,r',h1,h2,h3,h4,h5,h6,h7,h8⟩:=t.tB;refine⟨r,?_⟩;rw[<-List.drop_drop,h,h1,h8];rfl
def lQ(t:Tre):t.flat.length=(Tre.cH t.kids).length+1:=by
 cases t with
 | mk k t n m a ks=>rw[Tre.gQ];rfl
def dP.whole(t:Tre):dP t.flat 0 t:=⟨[],d8⟩
def JU:∀(ts:List Tre)(p f:Nat),sf l p ts->ts.length<=f->ix l ((p:Int)+(Tre.cH ts).length) f p=bH p ts
 | [],p,0,h,hf=>rfl
 | [],p,f+1,h,hf=>by
   simp only[ix,bH,Tre.wb,nQ];split
   . rw[if_neg d6]
   . rfl
 | t::ts,p,0,h,hf=>by simp at hf
 | t::ts,p,f+1,h,hf=>by
   obtain⟨x,hx,_,hs,_⟩:=h.head.oS;have hp:=t.eC;simp only[ix,bH,hx];rw[if_pos (by simp;omega)];have:=JU ts (p+t.flat.length) f h.tail (by simp at hf;omega);have e:p+x.size.toNat=p+t.flat.length:=by omega
   rw[e,<-this];congr 2;simp;omega
def BF(h:dP l p t):ix l ((p:Int)+t.flat.length) l.length (p+1)=bH (p+1) t.kids:=by
 have:=JU t.kids (p+1) l.length h.kids (by
  have:=h.le;have:=lQ t;have:=Tre.pA t.kids;omega)
 rw[<-this];have:=lQ t;congr 1;omega
def AZ:∀(N:Nat)(ts:List Tre)(p:Nat),(Tre.cH ts).length<=N->sf l p ts->∀i,p<=i->i<p+(Tre.cH ts).length->∃t,dP l i t/\(Tre.wk ts->t.ok)
 | N,[],p,hN,h,i,h1,h2=>by simp at h2;omega
 | 0,t::ts,p,hN,h,i,h1,h2=>by have:=t.eC;simp only[Tre.dT,dx]at hN;omega
 | N+1,.mk k tx n m a ks::ts,p,hN,h,i,h1,h2=>by
   simp only[Tre.dT,Tre.gQ,dx,jm]at hN h2
   by_cases he:i=p
   . subst he;refine⟨_,h.head,λho=>?_⟩;rw[Tre.u9,cS]at ho;exact ho.1
   . by_cases hi:i<p+((Tre.cH ks).length+1)
     . obtain⟨t,ht,ho⟩:=AZ N ks (p+1) d6 h.head.kids i d6 d6;refine⟨t,ht,λhk=>ho ?_⟩;rw[Tre.u9,Tre.ok]at hk;simp only[cS]at hk;exact hk.1.2
     . obtain⟨t,ht,ho⟩:=AZ N ts (p+(Tre.flat (.mk k tx n m a ks)).length) d6 h.tail i (by rw[Tre.gQ];simp;omega) (by rw[Tre.gQ];simp;omega);refine⟨t,ht,λhk=>ho ?_⟩;rw[Tre.u9,cS]at hk;exact hk.2
end
def Cm(l:List Nd)(n:Nat)(es:List Int):mS l n (es.filter ((n:Int)<·))=mS l n es:=by
 cases l with
 | nil=>rfl
 | cons x r=>simp only[mS,List.filter_filter,Bool.and_self]
def C3:∀(N:Nat)(ts:List Tre)(n:Nat)(es:List Int)(r:List Nd),(Tre.cH ts).length<=N->(∀e∈es,(n:Int)+(Tre.cH ts).length<=e) ->
 mS (Tre.cH ts++r) n es=((decide (ts≠[])&&decide (60<es.length+(Tre.oV ts-1)))||mS r (n+(Tre.cH ts).length) es)
 | N,[],n,es,r,hN,C9=>by simp
 | 0,t::ts,n,es,r,hN,C9=>by have:=t.eC;simp only[Tre.dT,dx]at hN;omega
 | N+1,.mk k tx a b c ks::ts,n,es,r,hN,C9=>by
   simp only[Tre.dT,Tre.gQ,dx,jm]at hN C9;have TX:es.filter ((n:Int)<·)=es:=by
    rw[List.filter_eq_self];intro e he;have:=C9 e he;simp only[dU];omega
   simp only[Tre.dT,Tre.gQ,ke,lG,mS,TX,Tre.pH,Tre.Pq]
   by_cases Au:60<es.length
   . rw[if_pos Au];simp;omega
   . rw[if_neg Au];have h1:=C3 N ks (n+1) (es++[(n:Int)+(((Tre.cH ks).length:Int)+1)]) (Tre.cH ts++r) d6 (λe he=>by
      simp only[gV,lT]at he;rcases he with he|rfl
      . have:=C9 e he;omega
      . omega)
     rw[h1];have h2:mS (Tre.cH ts++r) (n+1+(Tre.cH ks).length) (es++[(n:Int)+(((Tre.cH ks).length:Int)+1)])=mS (Tre.cH ts++r) (n+1+(Tre.cH ks).length) es:=by
      rw[<-Cm,<-Cm (es:=es)];congr 1;rw[List.filter_append];have:List.filter (λx=>decide (((n+1+(Tre.cH ks).length:Nat):Int)<x)) [(n:Int)+(((Tre.cH ks).length:Int)+1)]=[]:=by
       rw[List.filter_cons_of_neg,List.filter_nil];simp only[dU];omega
      rw[this,iM]
     rw[h2];have h3:=C3 N ts (n+1+(Tre.cH ks).length) es r d6 (λe he=>by have:=C9 e he;omega);rw[h3];have e1:n+1+(Tre.cH ks).length+(Tre.cH ts).length=n+((Tre.flat (.mk k tx a b c ks)).length+(Tre.cH ts).length):=by rw[Tre.gQ];simp;omega
     have e2:n+((Tre.cH ks).length+1+(Tre.cH ts).length)=n+1+(Tre.cH ks).length+(Tre.cH ts).length:=by omega
     simp only[dx,jm,nQ,e2,Tre.gQ];rw[<-Bool.or_assoc];congr 1;rw[oN];have hd:ks=[]->Tre.oV ks=0:=λe=>by rw[e,Tre.mg]
     have tE:ts=[]->Tre.oV ts=0:=λe=>by rw[e,Tre.mg]
     have hdp:ks≠[]->0<Tre.oV ks:=λe=>by
      cases ks with
      | nil=>exact absurd rfl e
      | cons t ks=>rw[Tre.pH];omega
     have agy:ts≠[]->0<Tre.oV ts:=λe=>by
      cases ts with
      | nil=>exact absurd rfl e
      | cons t ks=>rw[Tre.pH];omega
     simp only[ml,cS,dU,ne_eq,reduceCtorEq,not_false_eq_true,true_and]
     by_cases hk:ks=[]
     . have:=hd hk
       by_cases ht:ts=[]
       . have:=tE ht;rw[ht]at this;simp only[hk,ht,not_true,false_and,or_false,false_iff,Tre.mg];omega
       . have:=agy ht;simp only[hk,ht,not_true,false_and,false_or,not_false_eq_true,true_and,Tre.mg];omega
     . have:=hdp hk
       by_cases ht:ts=[]
       . simp only[hk,ht,not_true,false_and,or_false,not_false_eq_true,true_and,Tre.mg];omega
       . have:=agy ht;simp only[hk,ht,not_false_eq_true,true_and];omega
     congr 1;omega
def OA(t:Tre):mS t.flat 0 []=decide (60<t.deep):=by
 have:=C3 t.flat.length [t] 0 [] [] d8 d8;simp only[Tre.dT,Tre.wb,iM,Tre.pH,Tre.mg,ne_eq,reduceCtorEq,not_false_eq_true,cC,Bool.true_and,nQ]at this;rw[this];simp only[mS,Bool.or_false];rw[oN];simp only[dU];omega
def EU(t:Tre):qX t.flat=(decide (60<t.deep)||decide (24<t.kids.length)):=by
 unfold qX;rw[OA];have h:=BF (dP.whole t);have hs:oD t.flat=((0:Nat):Int)+t.flat.length:=by
  obtain⟨x,r,h1,_,h3,_⟩:=t.tB;rw[h1]at h3 ⊢;simp only[oD];omega
 rw[hs,h,iw]
open Classical in
noncomputable def Cb(l:List Nd):Option Tre:=if h:∃t:Tre,l=t.flat then some h.choose else none
def Kx(t:Tre):Cb t.flat=some t:=by
 unfold Cb;have h:∃t':Tre,t.flat=t'.flat:=⟨t,rfl⟩;rw[dif_pos h];have:=h.choose_spec;rw[<-Tre.LP this]
def ZU{l:List Nd}(h:¬ ∃t:Tre,l=t.flat):Cb l=none:=by unfold Cb;rw[dif_neg h]
def ZV{l:List Nd}{t:Tre}(h:Cb l=some t):l=t.flat:=by
 unfold Cb at h;split at h
 . rename_i h';have:=h'.choose_spec;cases h;exact this
 . cases h
def uP(t:Tre):Int:=if t.kind≠1\/t.ok=false then 4 else if 60<t.deep\/24<t.kids.length then 5 else 0
noncomputable def iU(l:List Nd):Int:=if 900<l.length then 5 else match Cb l with|none=>4|some t=>uP t
def yL(t:Tre)(h:¬ 900<t.flat.length):iU t.flat=uP t:=by unfold iU;rw[if_neg h,Kx]
end Go.Rip
namespace Go.Rip
def rV(l:List Nd)(e:Nat):Nat->Nat->Nat
 | 0,p=>p
 | f+1,p=>if p<e then rV l e f (p+((l[p]?.map Nd.size).getD 0).toNat) else p
def iY(l:List Nd)(i:Nat):Nat:=((l[i]?.map Nd.size).getD 0).toNat
def CI(l:List Nd):Prop:=l≠[]/\oD l=l.length/\∀(i:Nat)(x:Nd),l[i]?=some x->1<=x.size/\x.size<=(l.length:Int)-i
def Bh(l:List Nd):Prop:=CI l/\∀(i:Nat)(x:Nd),l[i]?=some x->rV l (i+x.size.toNat) l.length (i+1)=i+x.size.toNat
def xw{l:List Nd}{e p:Nat}(h:¬ p<e):∀f,rV l e f p=p
 | 0=>rfl
 | f+1=>by rw[rV,if_neg h]
def xv{l:List Nd}{e p f:Nat}{x:Nd}(hx:l[p]?=some x)(h:p<e):rV l e (f+1) p=rV l e f (p+x.size.toNat):=by
 rw[rV,if_pos h,hx];rfl
def HR{l:List Nd}:∀(ts:List Tre)(p f:Nat),sf l p ts->ts.length<=f->rV l (p+(Tre.cH ts).length) f p=p+(Tre.cH ts).length
 | [],p,f,h,hf=>by rw[Tre.wb,xw d8];rfl
 | t::ts,p,0,h,hf=>by simp at hf
 | t::ts,p,f+1,h,hf=>by
   obtain⟨x,hx,_,hs,_⟩:=h.head.oS;have hp:=t.eC;rw[xv hx (by simp;omega)];have:=HR ts (p+t.flat.length) f h.tail (by simp at hf;omega);have e:p+x.size.toNat=p+t.flat.length:=by omega
   have e2:p+(Tre.cH (t::ts)).length=p+t.flat.length+(Tre.cH ts).length:=by simp;omega
   rw[e,e2,this]
def SI(t:Tre):Bh t.flat:=by
 have sub:∀i x,t.flat[i]?=some x->∃t',dP t.flat i t':=λi x hx=>by
  have hi:=(dw.1 hx).1;obtain⟨t',h,_⟩:=AZ (l:=t.flat) t.flat.length [t] 0 d8 ⟨[],d8⟩ i d6 (by simpa using hi);exact⟨t',h⟩
 refine⟨⟨?_,?_,λi x hx=>?_⟩,λi x hx=>?_⟩
 . have:=t.eC;intro e;rw[e]at this;simp at this
 . obtain⟨x,r,h1,_,h3,_⟩:=t.tB;rw[h1]at h3 ⊢;exact h3
 . obtain⟨t',h⟩:=sub i x hx;obtain⟨y,hy,_,hs,_⟩:=h.oS;rw[hx]at hy;cases hy;have:=h.le;have:=t'.eC;omega
 . obtain⟨t',h⟩:=sub i x hx;obtain⟨y,hy,_,hs,_⟩:=h.oS;rw[hx]at hy;cases hy;have hl:=lQ t';have:=HR t'.kids (i+1) t.flat.length h.kids (by
    have:=h.le;have:=Tre.pA t'.kids;omega)
   have e:i+x.size.toNat=i+1+(Tre.cH t'.kids).length:=by omega
   rw[e];exact this
def DT{l:List Nd}(hs:Bh l):∀(N i e f:Nat),e-i<=N->i<=e->e<=l.length->e-i<=f->rV l e f i=e->∃ts,l.drop i=Tre.cH ts++l.drop e/\(Tre.cH ts).length=e-i
 | N,i,e,f,hN,hie,he,hf,hw=>by
   by_cases h:i=e
   . subst h;exact⟨[],d8,d8⟩
   . cases N with
     | zero=>omega
     | succ N =>
     cases f with
     | zero=>omega
     | succ f =>
     obtain⟨x,hx⟩:∃x,l[i]?=some x:=⟨l[i]'(by omega),d8⟩;have Uh:=hs.1.2.2 i x hx;rw[xv hx d6]at hw;have hse:i+x.size.toNat<=e:=by
      rcases ik e (i+x.size.toNat) with h1|h1
      . rw[xw d6]at hw;omega
      . exact h1
     obtain⟨ks,k1,k2⟩:=DT hs N (i+1) (i+x.size.toNat) l.length d6 d6 d6 d6 (hs.2 i x hx);obtain⟨ts,t1,t2⟩:=DT hs N (i+x.size.toNat) e f d6 hse he d6 hw;have G4:(Tre.mk x.kind x.text x.n x.m x.at_ ks).flat=x::Tre.cH ks:=by
      rw[Tre.gQ];have:((Tre.cH ks).length:Int)+1=x.size:=by omega
      rw[this]
     refine⟨.mk x.kind x.text x.n x.m x.at_ ks::ts,?_,?_⟩
     . have hd:l.drop i=x::l.drop (i+1):=by
        rw[gI d6];have:=(dw.1 hx).2;rw[this]
       rw[hd,k1,t1,Tre.dT,G4];simp
     . rw[Tre.dT,G4];simp;omega
def zk(l:List Nd):Bh l↔∃t:Tre,l=t.flat:=by
 refine⟨λh=>?_,λ⟨t,ht⟩=>ht▸SI t⟩;cases l with
 | nil=>exact absurd rfl h.1.1
 | cons x r =>
   have gj:x.size=(r.length:Int)+1:=by have:=h.1.2.1;simpa [oD] using this
   have hw:=h.2 0 x rfl;obtain⟨ks,k1,k2⟩:=DT h r.length 1 (r.length+1) (r.length+1) d6 d6 d8 d6 (by
    have e:0+x.size.toNat=r.length+1:=by omega
    rw[e]at hw;exact hw)
   refine⟨.mk x.kind x.text x.n x.m x.at_ ks,?_⟩;rw[Tre.gQ];have hr:r=Tre.cH ks:=by
    have:(x::r).drop 1=r:=rfl;rw[this,List.drop_of_length_le d8,iM]at k1;exact k1
   rw[<-hr,<-gj]
def Gg{p:Int->Bool}:∀{l:List Int},(∀x∈l,p x)->l.takeWhile p=l
 | [],_=>rfl
 | a::l,h=>by rw[om,if_pos (h a d8),Gg λx hx=>h x (by simp[hx])]
def N0{p:Int->Bool}:∀{l:List Int},l.takeWhile p=l->∀x∈l,p x
 | [],_=>by simp
 | a::l,h=>by
   rw[om]at h;split at h
   . rename_i ha;intro x hx;rcases dy.1 hx with rfl|hx
     . exact ha
     . exact N0 (List.cons.inj h).2 x hx
   . cases h
def Aj(c:ku)(lo hi:Nat)(ks:List Int):dB ks [⟨c,lo,hi⟩]=(decide (lo<=ks.length/\ks.length<=hi)&&ks.all c.is):=by
 rw[dB];simp only[mq,List.sum_nil,Nat.sub_zero,dB];have hle:((ks.take (min ks.length hi)).takeWhile c.is).length<=min ks.length hi:=by
  have:=(vb c.is (l:=ks.take (min ks.length hi))).length_le;rw[List.length_take]at this;omega
 rw[oN];constructor
 . intro h;split at h
   . cases h
   . rename_i h1;have h2:ks.length<=((ks.take (min ks.length hi)).takeWhile c.is).length:=by
      have:(ks.drop ((ks.take (min ks.length hi)).takeWhile c.is).length).length=0:=by
       rw[List.isEmpty_iff.1 h];rfl
      rw[List.length_drop]at this;omega
     have EW:=Nat.le_trans h2 hle;have h3:ks.take (min ks.length hi)=ks:=pO d6;rw[h3]at h1 h2;have h4:ks.takeWhile c.is=ks:=(vb c.is).eq_of_length_le h2;have h5:=N0 h4;rw[h4]at h1;simp only[cS,dU,fQ];exact⟨⟨d6,d6⟩,h5⟩
 . intro h;simp only[cS,dU,fQ]at h;obtain⟨⟨h1,h2⟩,h3⟩:=h;have e1:ks.take (min ks.length hi)=ks:=pO d6;have e2:ks.takeWhile c.is=ks:=Gg h3;rw[e1,e2,if_neg d6];simp
def oo:∀(cs:List ku)(ks:List Int),dB ks (cs.map λc=>⟨c,1,1⟩)->ks.length=cs.length
 | [],ks,h=>by simp only[mq,dB,List.isEmpty_iff]at h;simp[h]
 | c::cs,ks,h=>by
   rw[fh,dB]at h;simp only at h;split at h
   . cases h
   . rename_i h1;have h7:=oo cs _ h;have hle:∀n,((ks.take (min n 1)).takeWhile c.is).length<=1/\((ks.take (min n 1)).takeWhile c.is).length<=ks.length:=λn=>by
      have:=(vb c.is (l:=ks.take (min n 1))).length_le;rw[List.length_take]at this;omega
     have h8:=hle (ks.length-((cs.map λc=>(⟨c,1,1⟩:nq)).map (·.least)).sum);rw[List.length_drop]at h7;have key:∀q a b:Nat,¬ q<1->a-q=b->q<=1/\q<=a->a=b+1:=by omega
     rw[jm];exact key _ _ _ h1 h7 h8
def NU(cs:List ku):((cs.map λc=>(⟨c,1,1⟩:nq)).map (·.least)).sum=cs.length:=by
 induction cs with
 | nil=>rfl
 | cons c cs ih=>simp only[fh,List.sum_cons,jm,ih];omega
def kD(c:ku)(cs:List ku)(k:Int)(ks:List Int)(h:ks.length=cs.length):dB (k::ks) (⟨c,1,1⟩::cs.map λc=>⟨c,1,1⟩)=(c.is k&&dB ks (cs.map λc=>⟨c,1,1⟩)):=by
 rw[dB];simp only[NU];have:min ((k::ks).length-cs.length) 1=1:=by simp;omega
 rw[this];simp only[List.take_succ_cons,List.take_zero,om,List.takeWhile_nil];cases c.is k<;>simp
def vE(s:nq)(cs:List ku)(ks:List Int)(hm:ks.length<=s.ph+cs.length):dB ks (s::cs.map λc=>⟨c,1,1⟩)=(decide (s.least+cs.length<=ks.length)&&((ks.take (ks.length-cs.length)).all s.c.is&&dB (ks.drop (ks.length-cs.length)) (cs.map λc=>⟨c,1,1⟩))):=by
 rw[dB];simp only[NU];have e0:min (ks.length-cs.length) s.ph=ks.length-cs.length:=by omega
 rw[e0];have hle:((ks.take (ks.length-cs.length)).takeWhile s.c.is).length<=ks.length-cs.length:=by
  have:=(vb s.c.is (l:=ks.take (ks.length-cs.length))).length_le;rw[List.length_take]at this;omega
 by_cases cg:∀x∈ks.take (ks.length-cs.length),s.c.is x
 . have e2:(ks.take (ks.length-cs.length)).takeWhile s.c.is=ks.take (ks.length-cs.length):=Gg cg;have e3:(ks.take (ks.length-cs.length)).all s.c.is:=fQ.2 cg;rw[e2,e3,List.length_take,Nat.min_eq_left d6]
   by_cases h:s.least+cs.length<=ks.length
   . rw[if_neg d6];simp[h]
   . rw[decide_eq_false h,Bool.false_and]
     by_cases h2:ks.length-cs.length<s.least
     . rw[if_pos h2]
     . rw[if_neg h2];have:s.least=0:=by omega
       cases hf:dB (ks.drop (ks.length-cs.length)) (cs.map λc=>⟨c,1,1⟩) with
       | false=>rfl
       | true =>
         have:=oo cs _ hf;rw[List.length_drop]at this;omega
 . have e3:(ks.take (ks.length-cs.length)).all s.c.is=false:=by
    cases h:(ks.take (ks.length-cs.length)).all s.c.is with
    | false=>rfl
    | true=>exact absurd (fQ.1 h) cg
   rw[e3,Bool.false_and,Bool.and_false];have aA:((ks.take (ks.length-cs.length)).takeWhile s.c.is).length<ks.length-cs.length:=by
    refine Nat.lt_of_le_of_ne hle λe=>cg ?_;have:(ks.take (ks.length-cs.length)).takeWhile s.c.is=ks.take (ks.length-cs.length):=(vb _).eq_of_length_le (by rw[List.length_take];omega);exact N0 this
   split
   . rfl
   . cases hf:dB (ks.drop ((ks.take (ks.length-cs.length)).takeWhile s.c.is).length) (cs.map λc=>⟨c,1,1⟩) with
     | false=>rfl
     | true =>
       have:=oo cs _ hf;rw[List.length_drop]at this;omega
mutual
def qU:Nat->Tre->List Nat
 | d,.mk _ _ _ _ _ ks=>d::pI (d+1) ks
def pI:Nat->List Tre->List Nat
 | _,[]=>[]
 | d,t::ts=>qU d t++pI d ts
end
@[simp] theorem Tv{d:Nat}:pI d []=[]:=by rw[pI]
@[simp] theorem Bl{d:Nat}{t:Tre}{ts:List Tre}:pI d (t::ts)=qU d t++pI d ts:=by rw[pI]
def Af{d:Nat}{k:Int}{t:aT}{n m a:Int}{ks:List Tre}:qU d (.mk k t n m a ks)=d::pI (d+1) ks:=by rw[qU]
def xP:∀(N:Nat)(ts:List Tre)(d:Nat),(Tre.cH ts).length<=N->(pI d ts).length=(Tre.cH ts).length
 | _,[],_,_=>by simp
 | 0,t::ts,_,h=>by have:=t.eC;simp only[Tre.dT,dx]at h;omega
 | N+1,.mk k t n m a ks::ts,d,h=>by
   simp only[Tre.dT,Tre.gQ,dx,jm]at h;have h1:=xP N ks (d+1) d6;have h2:=xP N ts d d6;simp only[Bl,Af,Tre.dT,Tre.gQ,dx,jm,h1,h2]
def zB(d:Nat)(t:Tre):(qU d t).length=t.flat.length:=by
 have:=xP _ [t] d (da _);simpa using this
def Ib:∀(N:Nat)(ts:List Tre)(d c:Nat),(Tre.cH ts).length<=N->((∃x∈pI d ts,c<x)↔ts≠[]/\c<d+(Tre.oV ts-1))
 | _,[],_,_,_=>by simp
 | 0,t::ts,_,_,h=>by have:=t.eC;simp only[Tre.dT,dx]at h;omega
 | N+1,.mk k t n m a ks::ts,d,c,h=>by
   simp only[Tre.dT,Tre.gQ,dx,jm]at h;have h1:=Ib N ks (d+1) c d6;have h2:=Ib N ts d c d6;have e:(∃x∈pI d (Tre.mk k t n m a ks::ts),c<x)↔(c<d\/(∃x∈pI (d+1) ks,c<x))\/∃x∈pI d ts,c<x:=by
    simp only[Bl,Af,ke,dy,gV];constructor
    . rintro⟨x,rfl|hx|hx,hc⟩
      . exact .inl (.inl hc)
      . exact .inl (.inr ⟨x,hx,hc⟩)
      . exact .inr ⟨x,hx,hc⟩
    . rintro ((hc|⟨x,hx,hc⟩)|⟨x,hx,hc⟩)
      . exact⟨d,.inl rfl,hc⟩
      . exact⟨x,.inr (.inl hx),hc⟩
      . exact⟨x,.inr (.inr hx),hc⟩
   rw[e,h1,h2];simp only[Tre.pH,Tre.Pq,ne_eq,reduceCtorEq,not_false_eq_true,true_and];have hd:∀l:List Tre,l=[]->Tre.oV l=0:=λl e=>by rw[e,Tre.mg]
   have hp:∀l:List Tre,¬ l=[]->0<Tre.oV l:=λl e=>by
    cases l with
    | nil=>exact absurd rfl e
    | cons t l=>rw[Tre.pH];omega
   by_cases hk:ks=[]
   . have:=hd ks hk
     by_cases ht:ts=[]
     . have:=hd ts ht;simp only[hk,ht,not_true,false_and,or_false,Tre.mg];omega
     . have:=hp ts ht;simp only[hk,ht,not_true,false_and,or_false,not_false_eq_true,true_and,Tre.mg];omega
   . have:=hp ks hk
     by_cases ht:ts=[]
     . simp only[hk,ht,not_true,false_and,or_false,not_false_eq_true,true_and,Tre.mg];omega
     . have:=hp ts ht;simp only[hk,ht,not_false_eq_true,true_and];omega
def LC(t:Tre):(∃x∈qU 0 t,60<x)↔60<t.deep:=by
 have:=Ib _ [t] 0 60 (da _);simp only[Bl,Tv,iM,ne_eq,reduceCtorEq,not_false_eq_true,true_and,Tre.pH,Tre.mg]at this;rw[this];omega
def uM(D:List Nat)(p d:Nat)(ts:List Tre):Prop:=∃r,D.drop p=pI d ts++r
section
variable {l:List Nd}{D:List Nat}{p d:Nat}{t:Tre}{ts:List Tre}
def uM.oS(h:uM D p d (t::ts)):D[p]?=some d:=by
 obtain⟨r,h⟩:=h;have:(D.drop p)[0]?=some d:=by
  rw[h];cases t;simp[Af]
 simpa using this
def uM.tail(h:uM D p d (t::ts)):uM D (p+t.flat.length) d ts:=by
 obtain⟨r,h⟩:=h;refine⟨r,?_⟩;rw[<-List.drop_drop,h,<-zB d t];simp
def uM.kids(h:uM D p d (t::ts)):uM D (p+1) (d+1) t.kids:=by
 obtain⟨r,h⟩:=h;cases t with
 | mk k tx n m a ks =>
 refine⟨pI d ts++r,?_⟩;rw[<-List.drop_drop,h];simp[Af,Tre.kids]
def uM.bH:∀{ts:List Tre}{p:Nat},uM D p d ts->∀i∈bH p ts,D[i]?=some d
 | [],p,h,i,hi=>by simp[Rip.bH]at hi
 | t::ts,p,h,i,hi=>by
   simp only[Rip.bH,dy]at hi;rcases hi with rfl|hi
   . exact h.oS
   . exact h.tail.bH i hi
def DF:∀(N:Nat)(ts:List Tre)(p d:Nat),(Tre.cH ts).length<=N->sf l p ts->uM D p d ts->∀i,p<=i->i<p+(Tre.cH ts).length ->
 (∃s e,dP l i s/\D[i]?=some e/\uM D (i+1) (e+1) s.kids/\e+p<=d+i)/\(i∈bH p ts\/∃i' s',p<=i'/\i'<i/\dP l i' s'/\i∈bH (i'+1) s'.kids)
 | N,[],p,d,hN,h,hd,i,h1,h2=>by simp at h2;omega
 | 0,t::ts,p,d,hN,h,hd,i,h1,h2=>by have:=t.eC;simp only[Tre.dT,dx]at hN;omega
 | N+1,t::ts,p,d,hN,h,hd,i,h1,h2=>by
   have p6:=lQ t;simp only[Tre.dT,dx]at hN h2
   by_cases he:i=p
   . subst he;exact⟨⟨t,d,h.head,hd.oS,hd.kids,da _⟩,.inl (by simp[bH])⟩
   . by_cases hi:i<p+t.flat.length
     . obtain⟨⟨s,e,a1,a2,a3,a4⟩,b⟩:=DF N t.kids (p+1) (d+1) d6 h.head.kids hd.kids i d6 d6;refine⟨⟨s,e,a1,a2,a3,d6⟩,.inr ?_⟩;rcases b with b|⟨i',s',b1,b2,b3⟩
       . exact⟨p,t,da _,d6,h.head,b⟩
       . exact⟨i',s',d6,b2,b3⟩
     . have:=t.eC;obtain⟨⟨s,e,a1,a2,a3,a4⟩,b⟩:=DF N ts (p+t.flat.length) d d6 h.tail hd.tail i d6 d6;refine⟨⟨s,e,a1,a2,a3,d6⟩,?_⟩;rcases b with b|⟨i',s',b1,b2,b3⟩
       . exact .inl (by simp[bH,b])
       . exact .inr ⟨i',s',d6,b2,b3⟩
end
def place(t:Tre){i:Nat}(hi:i<t.flat.length):(∃s e,dP t.flat i s/\(qU 0 t)[i]?=some e/\uM (qU 0 t) (i+1) (e+1) s.kids/\e<=i)/\(i=0\/∃i' s',i'<i/\dP t.flat i' s'/\i∈bH (i'+1) s'.kids):=by
 obtain⟨⟨s,e,a1,a2,a3,a4⟩,b⟩:=DF (l:=t.flat) (D:=qU 0 t) t.flat.length [t] 0 0 d8 ⟨[],d8⟩ ⟨[],d8⟩ i d6 (by simpa using hi);refine⟨⟨s,e,a1,a2,a3,d6⟩,?_⟩;rcases b with b|⟨i',s',b1,b2,b3⟩
 . simp only[bH,dy,List.not_mem_nil,or_false]at b;exact .inl b
 . exact .inr ⟨i',s',b2,b3⟩
def dP.inj{l:List Nd}{i:Nat}{s s':Tre}(h:dP l i s)(k:dP l i s'):s=s':=by
 obtain⟨r,h1⟩:=h;obtain⟨r',h2⟩:=k;obtain⟨x,hx,_,hs,_⟩:=dP.oS ⟨r,h1⟩;obtain⟨x',lJ,_,fj,_⟩:=dP.oS ⟨r',h2⟩;rw[hx]at lJ;cases lJ;have:=Tre.yP s.flat.length [s] [s'] r r' d8 (by simpa using h1.symm.trans h2) (by simp;omega);simpa using this
end Go.Rip
