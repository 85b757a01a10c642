/- Lemmas for the proof: no conditions. -/
import Derived.Test.YtnfpmiiopiinbaaGreatDoorRipZz
import Derived.Test.YtnfpmiiopiinbaaGreatDoorRipI
set_option linter.unusedVariables false
set_option linter.unusedSimpArgs false
set_option linter.loopingSimpArgs false
namespace Go.Rip
inductive jv where
 | item|type|base|term|arg|kind (k:Int)
def cE (k:Int):Bool:=decide (9<=k/\k<=34)
def pA (k:Int):Bool:=decide (k=6\/k=7)
def qw (k:Int):Bool:=decide (k=6\/k=7\/k=8)
def jB (k:Int):Bool:=decide (2<=k/\k<=4)
def oo (k:Int):Bool:=decide (9<=k/\k<=36)
def jv.is:jv->Int->Bool
 | .item,k=>jB k
 | .type,k=>qw k
 | .base,k=>pA k
 | .term,k=>cE k
 | .arg,k=>oo k
 | .kind c,k=>decide (k=c)
structure mv where
 c:jv
 least:Nat
 o6:Nat
structure gS where
 text:Bool
 n:Bool
 m:Bool
 kids:List mv
def bG (k:Int):Option gS :=
 if k=1 then some ⟨false,false,false,[⟨.item,0,900⟩]⟩
 else if k=2 then some ⟨true,false,false,[⟨.type,1,1⟩]⟩
 else if k=3\/k=4 then some ⟨true,false,false,[⟨.kind 5,0,900⟩,⟨.base,1,1⟩,⟨.term,1,1⟩]⟩
 else if k=5 then some ⟨true,false,false,[⟨.type,1,1⟩]⟩
 else if k=6\/k=7 then some ⟨false,true,false,[]⟩
 else if k=8 then some ⟨false,false,false,[⟨.base,2,900⟩]⟩
 else if k=9 then some ⟨false,false,false,[⟨.term,2,900⟩]⟩
 else if k=10 then some ⟨false,false,false,[⟨.term,3,3⟩]⟩
 else if k=11\/k=15\/k=17\/k=18\/20<=k/\k<=24 then some ⟨false,false,false,[⟨.term,2,2⟩]⟩
 else if k=12 then some ⟨true,true,true,[⟨.term,1,1⟩]⟩
 else if k=13 then some ⟨true,false,false,[⟨.term,2,2⟩]⟩
 else if k=14 then some ⟨true,true,false,[⟨.term,1,1⟩]⟩
 else if k=16 then some ⟨true,false,false,[⟨.term,1,1⟩]⟩
 else if k=19 then some ⟨false,false,false,[⟨.term,1,1⟩]⟩
 else if k=25 then some ⟨false,true,false,[⟨.term,1,1⟩]⟩
 else if k=26 then some ⟨false,true,false,[]⟩
 else if 27<=k/\k<=30 then some ⟨false,false,false,[]⟩
 else if k=31\/k=32\/k=33\/k=37 then some ⟨true,false,false,[]⟩
 else if k=34 then some ⟨true,false,false,[⟨.arg,1,900⟩]⟩
 else if k=35 then some ⟨false,false,false,[⟨.kind 37,1,900⟩,⟨.term,1,1⟩]⟩
 else if k=36 then some ⟨false,false,false,[⟨.term,1,1⟩,⟨.kind 37,1,1⟩,⟨.term,1,1⟩]⟩
 else none
def ep:List Int->List mv->Bool
 | ks,[]=>ks.isEmpty
 | ks,s::rest =>
   let many:=((ks.take (min (ks.length-(rest.map (·.least)).sum) s.o6)).takeWhile s.c.is).length
   if many<s.least then false else ep (ks.drop many) rest
def kH (s:aG):Bool:=decide (iK s=(0,1,s))
def dV (n:Int):Bool:=decide (0<=n/\n<=1000000)
def eF (x:Nd) (f:gS):Bool:=(f.text==(x.text != []))&&(!f.text||kH x.text)&&dV x.n&&dV x.m&&(f.n||x.n==0)&&(f.m||x.m==0)
inductive Tre where
 | mk (kind:Int) (text:aG) (n m at_:Int) (kids:List Tre)
namespace Tre
def kind:Tre->Int|mk k _ _ _ _ _=>k
def text:Tre->aG|mk _ t _ _ _ _=>t
def n:Tre->Int|mk _ _ n _ _ _=>n
def m:Tre->Int|mk _ _ _ m _ _=>m
def at_:Tre->Int|mk _ _ _ _ a _=>a
def kids:Tre->List Tre|mk _ _ _ _ _ ks=>ks
mutual
def flat:Tre->List Nd
 | mk k t n m a ks=>node k t n m a (bu ks)
def bu:List Tre->List Nd
 | []=>[]
 | t::ts=>flat t++bu ts
end
mutual
def ok:Tre->Bool
 | mk k t n m a ks=>(match bG k with
   | some f=>eF ⟨k,t,n,m,a,0⟩ f&&ep (ks.map kind) f.kids
   | none=>false)&&uo ks
def uo:List Tre->Bool
 | []=>true
 | t::ts=>ok t&&uo ts
end
mutual
def deep:Tre->Nat
 | mk _ _ _ _ _ ks=>qu ks
def qu:List Tre->Nat
 | []=>0
 | t::ts=>max (deep t+1) (qu ts)
end
end Tre
abbrev Tx:=Nat×aG
def aB (s:aG):Tx:=(match s with|c::_=>if mM c then 3 else 4|[]=>4,s)
def eK (s:aG):Tx:=(1,s)
def lV:Nat->Nat->aG
 | 0,_=>[]
 | f+1,n=>if n<10 then [(48+n).toUInt8] else lV f (n / 10)++[(48+n%10).toUInt8]
def nH (n:Int):aG:=lV 20 n.toNat
def jh (n:Int):Tx:=(2,nH n)
def bP (k:Int):Nat :=
 if k=9 then 0 else if 10<=k/\k<=16 then 1 else if k=17 then 2 else if k=18 then 3 else if k=19 then 4 else if k=20\/k=21 then 5 else if k=22\/k=23 then 6 else if k=24 then 7 else if k=25 then 8 else 9
def ki (k:Int):aG :=
 if k=17 then Ea else if k=18 then zM else if k=20 then gP else if k=21 then ud else if k=22 then ub else if k=23 then sX else if k=24 then u9 else uI
def dP (k:Int) (least:Nat) (l:List Tx):List Tx:=if least<=bP k then l else aB bK::l++[aB bJ]
def dh (w:aG):List (List Tx)->List Tx
 | []=>[]
 | [l]=>l
 | l::m::ls=>l++aB w::dh w (m::ls)
def aV (k:Int) (t:aG) (n m:Int) (ks:List (Int×List Tx)):List Tx :=
 let g (i:Nat):List Tx:=(ks.getD i (0,[])).2;let b (least i:Nat):List Tx:=dP (ks.getD i (0,[])).1 least (g i);let all:=ks.map (·.2)
 if k=2 then aB dY::eK t::aB dk::g 0++[aB cC]
 else if k=3\/k=4 then aB (if k=3 then gg else dQ)::eK t::aB bK::dh cH (all.take (ks.length-2))++aB bJ::aB dk::g (ks.length-2)++aB gP::g (ks.length-1)++[aB cC]
 else if k=5 then eK t::aB dk::g 0
 else if k=6 then (if n=1 then [aB pX] else if n=2 then [aB lP] else [aB gY,jh n])
 else if k=7 then [aB ky,jh n]
 else if k=8 then aB bK::dh cH (all.take (ks.length-1))++aB bJ::aB fY::g (ks.length-1)
 else if k=9 then dh cC (ks.map λ x=>dP x.1 1 x.2)
 else if k=10 then aB pg::b 1 0++aB oL::b 1 1++aB fe::b 1 2
 else if k=11 then aB gH::b 1 0++aB sY::b 1 1
 else if k=12 then aB lY::eK t::aB dk::jh n::aB bQ::jh m::aB kr::b 1 0
 else if k=13 then aB jb::eK t::aB kr::b 1 0++aB fe::b 1 1
 else if k=14 then aB iU::eK t::aB bQ::jh n::aB kr::b 1 0
 else if k=15 then aB ia::b 1 0++aB fe::b 1 1
 else if k=16 then eK t::aB bQ::b 1 0
 else if k=19 then aB qD::b 4 0
 else if k=25 then b 8 0++[aB uI,jh n]
 else if 17<=k/\k<=24 then b (if bP k=5 then 6 else bP k) 0++aB (ki k)::b (bP k+1) 1
 else if k=26 then [jh n]
 else if k=27 then [aB dN]
 else if k=28 then [aB dR]
 else if k=29 then [aB fU]
 else if k=30 then [aB ik]
 else if k=31 then [aB kz,eK t]
 else if k=32 then [aB mT,eK t]
 else if k=33\/k=37 then [eK t]
 else if k=34 then eK t::aB bK::dh cH all++[aB bJ]
 else if k=35 then aB rO::aB bK::dh cH (all.take (ks.length-1))++aB bJ::b 1 (ks.length-1)
 else if k=36 then aB gQ::aB va::b 1 0++aB cC::aB vb::g 1++aB uc::b 1 2++[aB jJ]
 else []
namespace Tre
mutual
def pr:Tre->List Tx
 | mk k t n m _ ks=>aV k t n m (TH ks)
def TH:List Tre->List (Int×List Tx)
 | []=>[]
 | t::ts=>(t.kind,pr t)::TH ts
end
end Tre
def fG (a b:Tx):Bool:=(a.1 != 4&&b.1 != 4)||(a.2==dk&&b.2==gP)
def cR:List Tx->aG
 | []=>[]
 | [a]=>a.2
 | a::b::l=>a.2++(if fG a b then [32] else [])++cR (b::l)
def fA (l:List Tx):aG×Int:=if 900<l.length then ([],5) else if 2500<(cR l).length then ([],5) else (cR l,0)
end Go.Rip
namespace Go.Rip
def fO (l:List Nd) (en:Int):Nat->Nat->List Nat
 | 0,_=>[]
 | f+1,p=>match l[p]? with
   | some x=>if (p:Int)<en/\0<x.size then p::fO l en f (p+x.size.toNat) else []
   | none=>[]
def jd:List Nd->Nat->List Int->Bool
 | [],_,_=>false
 | x::r,n,es=>if 60<(es.filter ((n:Int)<·)).length then true else jd r (n+1) (es.filter ((n:Int)<·)++[(n:Int)+x.size])
def mQ (l:List Nd):Int:=match l with|x::_=>x.size|[]=>0
def jU (l:List Nd):Bool:=jd l 0 []||decide (24<(fO l (mQ l) l.length 1).length)
namespace Tre
theorem dZ {k:Int} {t:aG} {n m a:Int} {ks:List Tre}:flat (mk k t n m a ks)=⟨k,t,n,m,a,((bu ks).length:Int)+1⟩::bu ks:=by rw[flat]; rfl
@[simp] theorem nh:bu []=[]:=by rw[bu]
@[simp] theorem cM {t:Tre} {ts:List Tre}:bu (t::ts)=flat t++bu ts:=by rw[bu]
theorem fy:∀ (l l':List Tre),bu (l++l')=bu l++bu l'
 | [],l'=>by simp
 | t::l,l'=>by simp[fy l l']
@[simp] theorem akh:uo []=true:=by rw[uo]
@[simp] theorem tG {t:Tre} {ts:List Tre}:uo (t::ts)=(ok t&&uo ts):=by rw[uo]
theorem sJ:∀ (l l':List Tre),uo (l++l')=(uo l&&uo l')
 | [],l'=>by simp
 | t::l,l'=>by simp[sJ l l',Bool.and_assoc]
@[simp] theorem abe {k:Int} {t:aG} {n m a:Int} {ks:List Tre}:deep (mk k t n m a ks)=qu ks:=by rw[deep]
@[simp] theorem rR:qu []=0:=by rw[qu]
@[simp] theorem uX {t:Tre} {ts:List Tre}:qu (t::ts)=max (deep t+1) (qu ts):=by rw[qu]
theorem dJ:∀ t:Tre,0<t.flat.length
 | mk k t n m a ks=>by rw[dZ]; simp
theorem oN:∀ ts:List Tre,ts.length<=(bu ts).length
 | []=>by simp
 | t::ts=>by
   have:=oN ts;have:=dJ t;simp; omega
theorem rU:∀ t:Tre,∃ x r,t.flat=x::r/\x.kind=t.kind/\x.size=t.flat.length/\x.text=t.text/\x.n=t.n/\x.m=t.m/\x.at_=t.at_/\r=bu t.kids
 | mk k t n m a ks=>⟨_,_,dZ,rfl,by rw[dZ]; simp,rfl,rfl,rfl,rfl,rfl⟩
theorem wx:∀ (N:Nat) (ts qH:List Tre) (r r':List Nd),(bu ts).length<=N->bu ts++r=bu qH++r'->(bu ts).length=(bu qH).length->ts=qH
 | N,[],[],_,_,_,_,_=>rfl
 | N,[],t::ts,_,_,_,_,h=>by have:=dJ t; simp only[cM,nh,cO,k0]at h; omega
 | N,t::ts,[],_,_,_,_,h=>by have:=dJ t; simp only[cM,nh,cO,k0]at h; omega
 | 0,t::ts,_,_,_,hN,_,_=>by have:=dJ t; simp only[cM,cO]at hN; omega
 | N+1,mk k t n m a ks::ts,mk k' t' n' m' a' ks'::qH,r,r',hN,h,hl=>by
   simp only[cM,dZ,dK,dc,List.cons.injEq,Nd.mk.injEq,eX,cO]at h hl hN;obtain⟨⟨rfl,rfl,rfl,rfl,rfl,hs⟩,h⟩:=h;have hs:(bu ks).length=(bu ks').length:=by omega
   have e:=wx N ks ks' (bu ts++r) (bu qH++r') (by omega) h hs;subst e;have h2:=List.append_cancel_left h;have e:=wx N ts qH r r' (by omega) h2 (by omega);rw[e]
theorem yU {t t':Tre} (h:t.flat=t'.flat):t=t':=by
 have:=wx (bu [t]).length [t] [t'] [] [] (bX _) (by simp[h]) (by simp[h]);simpa using this
end Tre
def fK:Nat->List Tre->List Nat
 | _,[]=>[]
 | p,t::ts=>p::fK (p+t.flat.length) ts
theorem ry:∀ (p:Nat) (ts:List Tre),(fK p ts).length=ts.length
 | _,[]=>rfl
 | p,t::ts=>by simp[fK,ry]
def sk (l:List Nd) (p:Nat) (ts:List Tre):Prop:=∃ r,l.drop p=Tre.bu ts++r
def gT (l:List Nd) (p:Nat) (t:Tre):Prop:=∃ r,l.drop p=t.flat++r
section
variable {l:List Nd} {p:Nat} {t:Tre} {ts:List Tre}
theorem sk.head (h:sk l p (t::ts)):gT l p t:=by
 obtain⟨r,h⟩:=h;exact⟨Tre.bu ts++r,by rw[h]; simp⟩
theorem sk.tail (h:sk l p (t::ts)):sk l (p+t.flat.length) ts:=by
 obtain⟨r,h⟩:=h;refine⟨r,?_⟩;rw[<- List.drop_drop,h];simp
theorem gT.sn (h:gT l p t):∃ x,l[p]?=some x/\x.kind=t.kind/\x.size=t.flat.length/\x.text=t.text/\x.n=t.n/\x.m=t.m/\x.at_=t.at_:=by
 obtain⟨r,h⟩:=h;obtain⟨x,r',h1,h2,h3,h4,h5,h6,h7,h8⟩:=t.rU;refine⟨x,?_,h2,h3,h4,h5,h6,h7⟩;rw[h1]at h;have:(l.drop p)[0]?=some x:=by rw[h]; rfl
 simpa using this
theorem gT.le (h:gT l p t):p+t.flat.length<=l.length:=by
 obtain⟨r,h⟩:=h;have h':=congrArg List.length h;have:=t.dJ;simp only[List.length_drop,cO]at h'; omega
theorem gT.kids (h:gT l p t):sk l (p+1) t.kids:=by
 obtain⟨r,h⟩:=h;obtain⟨x,r',h1,h2,h3,h4,h5,h6,h7,h8⟩:=t.rU;refine⟨r,?_⟩;rw[<- List.drop_drop,h,h1,h8];rfl
theorem nI (t:Tre):t.flat.length=(Tre.bu t.kids).length+1:=by
 cases t with
 | mk k t n m a ks=>rw[Tre.dZ]; rfl
theorem gT.whole (t:Tre):gT t.flat 0 t:=⟨[],by simp⟩
theorem HU:∀ (ts:List Tre) (p f:Nat),sk l p ts->ts.length<=f->fO l ((p:Int)+(Tre.bu ts).length) f p=fK p ts
 | [],p,0,h,hf=>rfl
 | [],p,f+1,h,hf=>by
   simp only[fO,fK,Tre.nh,k0];split
   . rw[if_neg (by omega)]
   . rfl
 | t::ts,p,0,h,hf=>by simp at hf
 | t::ts,p,f+1,h,hf=>by
   obtain⟨x,hx,_,hs,_⟩:=h.head.sn;have hp:=t.dJ;simp only[fO,fK,hx];rw[if_pos (by simp; omega)];have:=HU ts (p+t.flat.length) f h.tail (by simp at hf; omega);have e:p+x.size.toNat=p+t.flat.length:=by omega
   rw[e,<- this];congr 2;simp; omega
theorem y9 (h:gT l p t):fO l ((p:Int)+t.flat.length) l.length (p+1)=fK (p+1) t.kids:=by
 have:=HU t.kids (p+1) l.length h.kids (by
  have:=h.le;have:=nI t;have:=Tre.oN t.kids;omega)
 rw[<- this];have:=nI t;congr 1;omega
theorem yu:∀ (N:Nat) (ts:List Tre) (p:Nat),(Tre.bu ts).length<=N->sk l p ts->∀ i,p<=i->i<p+(Tre.bu ts).length->∃ t,gT l i t/\(Tre.uo ts=true->t.ok=true)
 | N,[],p,hN,h,i,h1,h2=>by simp at h2; omega
 | 0,t::ts,p,hN,h,i,h1,h2=>by have:=t.dJ; simp only[Tre.cM,cO]at hN; omega
 | N+1,.mk k tx n m a ks::ts,p,hN,h,i,h1,h2=>by
   simp only[Tre.cM,Tre.dZ,cO,eX]at hN h2
   by_cases he:i=p
   . subst he;refine⟨_,h.head,λ ho=>?_⟩;rw[Tre.tG,cb]at ho;exact ho.1
   . by_cases hi:i<p+((Tre.bu ks).length+1)
     . obtain⟨t,ht,ho⟩:=yu N ks (p+1) (by omega) h.head.kids i (by omega) (by omega);refine⟨t,ht,λ hk=>ho ?_⟩;rw[Tre.tG,Tre.ok]at hk;simp only[cb]at hk;exact hk.1.2
     . obtain⟨t,ht,ho⟩:=yu N ts (p+(Tre.flat (.mk k tx n m a ks)).length) (by omega) h.tail i (by rw[Tre.dZ]; simp; omega) (by rw[Tre.dZ]; simp; omega);refine⟨t,ht,λ hk=>ho ?_⟩;rw[Tre.tG,cb]at hk;exact hk.2
end
theorem zY (l:List Nd) (n:Nat) (es:List Int):jd l n (es.filter ((n:Int)<·))=jd l n es:=by
 cases l with
 | nil=>rfl
 | cons x r=>simp only[jd,List.filter_filter,Bool.and_self]
theorem AO:∀ (N:Nat) (ts:List Tre) (n:Nat) (es:List Int) (r:List Nd),(Tre.bu ts).length<=N->(∀ e∈es,(n:Int)+(Tre.bu ts).length<=e) ->
 jd (Tre.bu ts++r) n es=((decide (ts≠[])&&decide (60<es.length+(Tre.qu ts-1)))||jd r (n+(Tre.bu ts).length) es)
 | N,[],n,es,r,hN,AU=>by simp
 | 0,t::ts,n,es,r,hN,AU=>by have:=t.dJ; simp only[Tre.cM,cO]at hN; omega
 | N+1,.mk k tx a b c ks::ts,n,es,r,hN,AU=>by
   simp only[Tre.cM,Tre.dZ,cO,eX]at hN AU;have hfe:es.filter ((n:Int)<·)=es:=by
    rw[List.filter_eq_self];intro e he;have:=AU e he;simp only[eg];omega
   simp only[Tre.cM,Tre.dZ,dK,dc,jd,hfe,Tre.uX,Tre.abe]
   by_cases uN:60<es.length
   . rw[if_pos uN];simp; omega
   . rw[if_neg uN];have h1:=AO N ks (n+1) (es++[(n:Int)+(((Tre.bu ks).length:Int)+1)]) (Tre.bu ts++r) (by omega) (λ e he=>by
      simp only[fT,kn]at he;rcases he with he|rfl
      . have:=AU e he; omega
      . omega)
     rw[h1];have h2:jd (Tre.bu ts++r) (n+1+(Tre.bu ks).length) (es++[(n:Int)+(((Tre.bu ks).length:Int)+1)])=jd (Tre.bu ts++r) (n+1+(Tre.bu ks).length) es:=by
      rw[<- zY,<- zY (es:=es)];congr 1;rw[List.filter_append];have:List.filter (λ x=>decide (((n+1+(Tre.bu ks).length:Nat):Int)<x)) [(n:Int)+(((Tre.bu ks).length:Int)+1)]=[]:=by
       rw[List.filter_cons_of_neg,List.filter_nil];simp only[eg]; omega
      rw[this,gx]
     rw[h2];have h3:=AO N ts (n+1+(Tre.bu ks).length) es r (by omega) (λ e he=>by have:=AU e he; omega);rw[h3];have e1:n+1+(Tre.bu ks).length+(Tre.bu ts).length=n+((Tre.flat (.mk k tx a b c ks)).length+(Tre.bu ts).length):=by rw[Tre.dZ]; simp; omega
     have e2:n+((Tre.bu ks).length+1+(Tre.bu ts).length)=n+1+(Tre.bu ks).length+(Tre.bu ts).length:=by omega
     simp only[cO,eX,k0,e2,Tre.dZ];rw[<- Bool.or_assoc];congr 1;rw[qO];have hd:ks=[]->Tre.qu ks=0:=λ e=>by rw[e,Tre.rR]
     have zZ:ts=[]->Tre.qu ts=0:=λ e=>by rw[e,Tre.rR]
     have hdp:ks≠[]->0<Tre.qu ks:=λ e=>by
      cases ks with
      | nil=>exact absurd rfl e
      | cons t ks=>rw[Tre.uX]; omega
     have aey:ts≠[]->0<Tre.qu ts:=λ e=>by
      cases ts with
      | nil=>exact absurd rfl e
      | cons t ks=>rw[Tre.uX]; omega
     simp only[kJ,cb,eg,ne_eq,reduceCtorEq,not_false_eq_true,true_and]
     by_cases hk:ks=[]
     . have:=hd hk
       by_cases ht:ts=[]
       . have:=zZ ht;rw[ht]at this;simp only[hk,ht,not_true,false_and,or_false,false_iff,Tre.rR]; omega
       . have:=aey ht;simp only[hk,ht,not_true,false_and,false_or,not_false_eq_true,true_and,Tre.rR]; omega
     . have:=hdp hk
       by_cases ht:ts=[]
       . simp only[hk,ht,not_true,false_and,or_false,not_false_eq_true,true_and,Tre.rR]; omega
       . have:=aey ht;simp only[hk,ht,not_false_eq_true,true_and]; omega
     congr 1; omega
theorem MU (t:Tre):jd t.flat 0 []=decide (60<t.deep):=by
 have:=AO t.flat.length [t] 0 [] [] (by simp) (by simp);simp only[Tre.cM,Tre.nh,gx,Tre.uX,Tre.rR,ne_eq,reduceCtorEq,not_false_eq_true,dG,Bool.true_and,k0]at this;rw[this];simp only[jd,Bool.or_false];rw[qO]; simp only[eg]; omega
theorem xl (t:Tre):jU t.flat=(decide (60<t.deep)||decide (24<t.kids.length)):=by
 unfold jU;rw[MU];have h:=y9 (gT.whole t);have hs:mQ t.flat=((0:Nat):Int)+t.flat.length:=by
  obtain⟨x,r,h1,_,h3,_⟩:=t.rU;rw[h1]at h3 ⊢;simp only[mQ]; omega
 rw[hs,h,ry]
open Classical in
noncomputable def D3 (l:List Nd):Option Tre:=if h:∃ t:Tre,l=t.flat then some h.choose else none
theorem IH (t:Tre):D3 t.flat=some t:=by
 unfold D3;have h:∃ t':Tre,t.flat=t'.flat:=⟨t,rfl⟩;rw[dif_pos h];have:=h.choose_spec;rw[<- Tre.yU this]
theorem Wi {l:List Nd} {t:Tre} (h:D3 l=some t):l=t.flat:=by
 unfold D3 at h;split at h
 . rename_i h';have:=h'.choose_spec;cases h;exact this
 . cases h
def Dt (t:Tre):Int:=if t.kind≠1\/t.ok=false then 4 else if 60<t.deep\/24<t.kids.length then 5 else 0
noncomputable def fR (l:List Nd):Int:=if 900<l.length then 5 else match D3 l with|none=>4|some t=>Dt t
theorem AB (t:Tre) (h:¬ 900<t.flat.length):fR t.flat=Dt t:=by unfold fR; rw[if_neg h,IH]
end Go.Rip
namespace Go.Rip
def ue (l:List Nd) (e:Nat):Nat->Nat->Nat
 | 0,p=>p
 | f+1,p=>if p<e then ue l e f (p+((l[p]?.map Nd.size).getD 0).toNat) else p
def gV (l:List Nd) (i:Nat):Nat:=((l[i]?.map Nd.size).getD 0).toNat
def Ed (l:List Nd):Prop:=l≠[]/\mQ l=l.length/\∀ (i:Nat) (x:Nd),l[i]?=some x->1<=x.size/\x.size<=(l.length:Int)-i
def I6 (l:List Nd):Prop:=Ed l/\∀ (i:Nat) (x:Nd),l[i]?=some x->ue l (i+x.size.toNat) l.length (i+1)=i+x.size.toNat
theorem zP {l:List Nd} {e p:Nat} (h:¬ p<e):∀ f,ue l e f p=p
 | 0=>rfl
 | f+1=>by rw[ue,if_neg h]
theorem zO {l:List Nd} {e p f:Nat} {x:Nd} (hx:l[p]?=some x) (h:p<e):ue l e (f+1) p=ue l e f (p+x.size.toNat):=by
 rw[ue,if_pos h,hx]; rfl
theorem FT {l:List Nd}:∀ (ts:List Tre) (p f:Nat),sk l p ts->ts.length<=f->ue l (p+(Tre.bu ts).length) f p=p+(Tre.bu ts).length
 | [],p,f,h,hf=>by rw[Tre.nh,zP (by simp)]; rfl
 | t::ts,p,0,h,hf=>by simp at hf
 | t::ts,p,f+1,h,hf=>by
   obtain⟨x,hx,_,hs,_⟩:=h.head.sn;have hp:=t.dJ;rw[zO hx (by simp; omega)];have:=FT ts (p+t.flat.length) f h.tail (by simp at hf; omega);have e:p+x.size.toNat=p+t.flat.length:=by omega
   have e2:p+(Tre.bu (t::ts)).length=p+t.flat.length+(Tre.bu ts).length:=by simp; omega
   rw[e,e2,this]
theorem QV (t:Tre):I6 t.flat:=by
 have sub:∀ i x,t.flat[i]?=some x->∃ t',gT t.flat i t':=λ i x hx=>by
  have hi:=(dp.1 hx).1;obtain⟨t',h,_⟩:=yu (l:=t.flat) t.flat.length [t] 0 (by simp) ⟨[],by simp⟩ i (by omega) (by simpa using hi);exact⟨t',h⟩
 refine⟨⟨?_,?_,λ i x hx=>?_⟩,λ i x hx=>?_⟩
 . have:=t.dJ;intro e; rw[e]at this; simp at this
 . obtain⟨x,r,h1,_,h3,_⟩:=t.rU;rw[h1]at h3 ⊢; exact h3
 . obtain⟨t',h⟩:=sub i x hx;obtain⟨y,hy,_,hs,_⟩:=h.sn;rw[hx]at hy; cases hy;have:=h.le;have:=t'.dJ;omega
 . obtain⟨t',h⟩:=sub i x hx;obtain⟨y,hy,_,hs,_⟩:=h.sn;rw[hx]at hy; cases hy;have hl:=nI t';have:=FT t'.kids (i+1) t.flat.length h.kids (by
    have:=h.le;have:=Tre.oN t'.kids;omega)
   have e:i+x.size.toNat=i+1+(Tre.bu t'.kids).length:=by omega
   rw[e]; exact this
theorem BF {l:List Nd} (hs:I6 l):∀ (N i e f:Nat),e-i<=N->i<=e->e<=l.length->e-i<=f->ue l e f i=e->∃ ts,l.drop i=Tre.bu ts++l.drop e/\(Tre.bu ts).length=e-i
 | N,i,e,f,hN,hie,he,hf,hw=>by
   by_cases h:i=e
   . subst h; exact⟨[],by simp,by simp⟩
   . cases N with
     | zero=>omega
     | succ N =>
     cases f with
     | zero=>omega
     | succ f =>
     obtain⟨x,hx⟩:∃ x,l[i]?=some x:=⟨l[i]'(by omega),by simp⟩;have hsx:=hs.1.2.2 i x hx;rw[zO hx (by omega)]at hw;have hse:i+x.size.toNat<=e:=by
      rcases kI e (i+x.size.toNat) with h1|h1
      . rw[zP (by omega)]at hw; omega
      . exact h1
     obtain⟨ks,k1,k2⟩:=BF hs N (i+1) (i+x.size.toNat) l.length (by omega) (by omega) (by omega) (by omega) (hs.2 i x hx);obtain⟨ts,t1,t2⟩:=BF hs N (i+x.size.toNat) e f (by omega) hse he (by omega) hw;have ZP:(Tre.mk x.kind x.text x.n x.m x.at_ ks).flat=x::Tre.bu ks:=by
      rw[Tre.dZ];have:((Tre.bu ks).length:Int)+1=x.size:=by omega
      rw[this]
     refine⟨.mk x.kind x.text x.n x.m x.at_ ks::ts,?_,?_⟩
     . have hd:l.drop i=x::l.drop (i+1):=by
        rw[gM (by omega)];have:=(dp.1 hx).2;rw[this]
       rw[hd,k1,t1,Tre.cM,ZP];simp
     . rw[Tre.cM,ZP]; simp; omega
theorem IA (l:List Nd):I6 l↔∃ t:Tre,l=t.flat:=by
 refine⟨λ h=>?_,λ ⟨t,ht⟩=>ht▸QV t⟩;cases l with
 | nil=>exact absurd rfl h.1.1
 | cons x r =>
   have fH:x.size=(r.length:Int)+1:=by have:=h.1.2.1; simpa [mQ] using this
   have hw:=h.2 0 x rfl;obtain⟨ks,k1,k2⟩:=BF h r.length 1 (r.length+1) (r.length+1) (by omega) (by omega) (by simp) (by omega) (by
    have e:0+x.size.toNat=r.length+1:=by omega
    rw[e]at hw; exact hw)
   refine⟨.mk x.kind x.text x.n x.m x.at_ ks,?_⟩;rw[Tre.dZ];have hr:r=Tre.bu ks:=by
    have:(x::r).drop 1=r:=rfl;rw[this,List.drop_of_length_le (by simp),gx]at k1;exact k1
   rw[<- hr,<- fH]
theorem D6 {p:Int->Bool}:∀ {l:List Int},(∀ x∈l,p x=true)->l.takeWhile p=l
 | [],_=>rfl
 | a::l,h=>by rw[mV,if_pos (h a (by simp)),D6 λ x hx=>h x (by simp[hx])]
theorem Mm {p:Int->Bool}:∀ {l:List Int},l.takeWhile p=l->∀ x∈l,p x=true
 | [],_=>by simp
 | a::l,h=>by
   rw[mV]at h;split at h
   . rename_i ha;intro x hx;rcases cK.1 hx with rfl|hx
     . exact ha
     . exact Mm (List.cons.inj h).2 x hx
   . cases h
theorem Cb (c:jv) (lo hi:Nat) (ks:List Int):ep ks [⟨c,lo,hi⟩]=(decide (lo<=ks.length/\ks.length<=hi)&&ks.all c.is):=by
 rw[ep];simp only[oB,List.sum_nil,Nat.sub_zero,ep];have hle:((ks.take (min ks.length hi)).takeWhile c.is).length<=min ks.length hi:=by
  have:=(xx c.is (l:=ks.take (min ks.length hi))).length_le;rw[List.length_take]at this; omega
 rw[qO];constructor
 . intro h;split at h
   . cases h
   . rename_i h1;have h2:ks.length<=((ks.take (min ks.length hi)).takeWhile c.is).length:=by
      have:(ks.drop ((ks.take (min ks.length hi)).takeWhile c.is).length).length=0:=by
       rw[List.isEmpty_iff.1 h]; rfl
      rw[List.length_drop]at this; omega
     have wy:=Nat.le_trans h2 hle;have h3:ks.take (min ks.length hi)=ks:=qg (by omega);rw[h3]at h1 h2;have h4:ks.takeWhile c.is=ks:=(xx c.is).eq_of_length_le h2;have h5:=Mm h4;rw[h4]at h1;simp only[cb,eg,fm];exact⟨⟨by omega,by omega⟩,h5⟩
 . intro h;simp only[cb,eg,fm]at h;obtain⟨⟨h1,h2⟩,h3⟩:=h;have e1:ks.take (min ks.length hi)=ks:=qg (by omega);have e2:ks.takeWhile c.is=ks:=D6 h3;rw[e1,e2,if_neg (by omega)];simp
theorem pn:∀ (cs:List jv) (ks:List Int),ep ks (cs.map λ c=>⟨c,1,1⟩)=true->ks.length=cs.length
 | [],ks,h=>by simp only[oB,ep,List.isEmpty_iff]at h; simp[h]
 | c::cs,ks,h=>by
   rw[dH,ep]at h;simp only at h;split at h
   . cases h
   . rename_i h1;have h7:=pn cs _ h;have hle:∀ n,((ks.take (min n 1)).takeWhile c.is).length<=1/\((ks.take (min n 1)).takeWhile c.is).length<=ks.length:=λ n=>by
      have:=(xx c.is (l:=ks.take (min n 1))).length_le;rw[List.length_take]at this; omega
     have h8:=hle (ks.length-((cs.map λ c=>(⟨c,1,1⟩:mv)).map (·.least)).sum);rw[List.length_drop]at h7;have key:∀ q a b:Nat,¬ q<1->a-q=b->q<=1/\q<=a->a=b+1:=by omega
     rw[eX];exact key _ _ _ h1 h7 h8
theorem Mf (cs:List jv):((cs.map λ c=>(⟨c,1,1⟩:mv)).map (·.least)).sum=cs.length:=by
 induction cs with
 | nil=>rfl
 | cons c cs ih=>simp only[dH,List.sum_cons,eX,ih]; omega
theorem xS (c:jv) (cs:List jv) (k:Int) (ks:List Int) (h:ks.length=cs.length):ep (k::ks) (⟨c,1,1⟩::cs.map λ c=>⟨c,1,1⟩)=(c.is k&&ep ks (cs.map λ c=>⟨c,1,1⟩)):=by
 rw[ep];simp only[Mf];have:min ((k::ks).length-cs.length) 1=1:=by simp; omega
 rw[this];simp only[List.take_succ_cons,List.take_zero,mV,List.takeWhile_nil];cases c.is k<;>simp
theorem CM (s:mv) (cs:List jv) (ks:List Int) (hm:ks.length<=s.o6+cs.length):ep ks (s::cs.map λ c=>⟨c,1,1⟩)=(decide (s.least+cs.length<=ks.length)&&((ks.take (ks.length-cs.length)).all s.c.is&&ep (ks.drop (ks.length-cs.length)) (cs.map λ c=>⟨c,1,1⟩))):=by
 rw[ep];simp only[Mf];have e0:min (ks.length-cs.length) s.o6=ks.length-cs.length:=by omega
 rw[e0];have hle:((ks.take (ks.length-cs.length)).takeWhile s.c.is).length<=ks.length-cs.length:=by
  have:=(xx s.c.is (l:=ks.take (ks.length-cs.length))).length_le;rw[List.length_take]at this; omega
 by_cases ck:∀ x∈ks.take (ks.length-cs.length),s.c.is x=true
 . have e2:(ks.take (ks.length-cs.length)).takeWhile s.c.is=ks.take (ks.length-cs.length):=D6 ck;have e3:(ks.take (ks.length-cs.length)).all s.c.is=true:=fm.2 ck;rw[e2,e3,List.length_take,Nat.min_eq_left (by omega)]
   by_cases h:s.least+cs.length<=ks.length
   . rw[if_neg (by omega)]; simp[h]
   . rw[decide_eq_false h,Bool.false_and]
     by_cases h2:ks.length-cs.length<s.least
     . rw[if_pos h2]
     . rw[if_neg h2];have:s.least=0:=by omega
       cases hf:ep (ks.drop (ks.length-cs.length)) (cs.map λ c=>⟨c,1,1⟩) with
       | false=>rfl
       | true =>
         have:=pn cs _ hf;rw[List.length_drop]at this;omega
 . have e3:(ks.take (ks.length-cs.length)).all s.c.is=false:=by
    cases h:(ks.take (ks.length-cs.length)).all s.c.is with
    | false=>rfl
    | true=>exact absurd (fm.1 h) ck
   rw[e3,Bool.false_and,Bool.and_false];have aN:((ks.take (ks.length-cs.length)).takeWhile s.c.is).length<ks.length-cs.length:=by
    refine Nat.lt_of_le_of_ne hle λ e=>ck ?_;have:(ks.take (ks.length-cs.length)).takeWhile s.c.is=ks.take (ks.length-cs.length):=(xx _).eq_of_length_le (by rw[List.length_take]; omega);exact Mm this
   split
   . rfl
   . cases hf:ep (ks.drop ((ks.take (ks.length-cs.length)).takeWhile s.c.is).length) (cs.map λ c=>⟨c,1,1⟩) with
     | false=>rfl
     | true =>
       have:=pn cs _ hf;rw[List.length_drop]at this;omega
end Go.Rip
namespace Go.Rip
mutual
def AF:Nat->Tre->List Nat
 | d,.mk _ _ _ _ _ ks=>d::sr (d+1) ks
def sr:Nat->List Tre->List Nat
 | _,[]=>[]
 | d,t::ts=>AF d t++sr d ts
end
@[simp] theorem aif {d:Nat}:sr d []=[]:=by rw[sr]
@[simp] theorem Py {d:Nat} {t:Tre} {ts:List Tre}:sr d (t::ts)=AF d t++sr d ts:=by rw[sr]
theorem F8 {d:Nat} {k:Int} {t:aG} {n m a:Int} {ks:List Tre}:AF d (.mk k t n m a ks)=d::sr (d+1) ks:=by rw[AF]
theorem vy:∀ (N:Nat) (ts:List Tre) (d:Nat),(Tre.bu ts).length<=N->(sr d ts).length=(Tre.bu ts).length
 | _,[],_,_=>by simp
 | 0,t::ts,_,h=>by have:=t.dJ; simp only[Tre.cM,cO]at h; omega
 | N+1,.mk k t n m a ks::ts,d,h=>by
   simp only[Tre.cM,Tre.dZ,cO,eX]at h;have h1:=vy N ks (d+1) (by omega);have h2:=vy N ts d (by omega);simp only[Py,F8,Tre.cM,Tre.dZ,cO,eX,h1,h2]
theorem ML (d:Nat) (t:Tre):(AF d t).length=t.flat.length:=by
 have:=vy _ [t] d (bX _);simpa using this
def vr (D:List Nat) (p d:Nat) (ts:List Tre):Prop:=∃ r,D.drop p=sr d ts++r
section
variable {l:List Nd} {D:List Nat} {p d:Nat} {t:Tre} {ts:List Tre}
theorem vr.sn (h:vr D p d (t::ts)):D[p]?=some d:=by
 obtain⟨r,h⟩:=h;have:(D.drop p)[0]?=some d:=by
  rw[h];cases t;simp[F8]
 simpa using this
theorem vr.tail (h:vr D p d (t::ts)):vr D (p+t.flat.length) d ts:=by
 obtain⟨r,h⟩:=h;refine⟨r,?_⟩;rw[<- List.drop_drop,h,<- ML d t];simp
theorem vr.kids (h:vr D p d (t::ts)):vr D (p+1) (d+1) t.kids:=by
 obtain⟨r,h⟩:=h;cases t with
 | mk k tx n m a ks =>
 refine⟨sr d ts++r,?_⟩;rw[<- List.drop_drop,h];simp[F8,Tre.kids]
theorem Bs:∀ (N:Nat) (ts:List Tre) (p d:Nat),(Tre.bu ts).length<=N->sk l p ts->vr D p d ts->∀ i,p<=i->i<p+(Tre.bu ts).length ->
 (∃ s e,gT l i s/\D[i]?=some e/\vr D (i+1) (e+1) s.kids/\e+p<=d+i)/\(i∈fK p ts\/∃ i' s',p<=i'/\i'<i/\gT l i' s'/\i∈fK (i'+1) s'.kids)
 | N,[],p,d,hN,h,hd,i,h1,h2=>by simp at h2; omega
 | 0,t::ts,p,d,hN,h,hd,i,h1,h2=>by have:=t.dJ; simp only[Tre.cM,cO]at hN; omega
 | N+1,t::ts,p,d,hN,h,hd,i,h1,h2=>by
   have CQ:=nI t;simp only[Tre.cM,cO]at hN h2
   by_cases he:i=p
   . subst he;exact⟨⟨t,d,h.head,hd.sn,hd.kids,bX _⟩,.inl (by simp[fK])⟩
   . by_cases hi:i<p+t.flat.length
     . obtain⟨⟨s,e,a1,a2,a3,a4⟩,b⟩:=Bs N t.kids (p+1) (d+1) (by omega) h.head.kids hd.kids i (by omega) (by omega);refine⟨⟨s,e,a1,a2,a3,by omega⟩,.inr ?_⟩;rcases b with b|⟨i',s',b1,b2,b3⟩
       . exact⟨p,t,bX _,by omega,h.head,b⟩
       . exact⟨i',s',by omega,b2,b3⟩
     . have:=t.dJ;obtain⟨⟨s,e,a1,a2,a3,a4⟩,b⟩:=Bs N ts (p+t.flat.length) d (by omega) h.tail hd.tail i (by omega) (by omega);refine⟨⟨s,e,a1,a2,a3,by omega⟩,?_⟩;rcases b with b|⟨i',s',b1,b2,b3⟩
       . exact .inl (by simp[fK,b])
       . exact .inr ⟨i',s',by omega,b2,b3⟩
end
theorem place (t:Tre) {i:Nat} (hi:i<t.flat.length):(∃ s e,gT t.flat i s/\(AF 0 t)[i]?=some e/\vr (AF 0 t) (i+1) (e+1) s.kids/\e<=i)/\(i=0\/∃ i' s',i'<i/\gT t.flat i' s'/\i∈fK (i'+1) s'.kids):=by
 obtain⟨⟨s,e,a1,a2,a3,a4⟩,b⟩:=Bs (l:=t.flat) (D:=AF 0 t) t.flat.length [t] 0 0 (by simp) ⟨[],by simp⟩ ⟨[],by simp⟩ i (by omega) (by simpa using hi);refine⟨⟨s,e,a1,a2,a3,by omega⟩,?_⟩;rcases b with b|⟨i',s',b1,b2,b3⟩
 . simp only[fK,cK,List.not_mem_nil,or_false]at b;exact .inl b
 . exact .inr ⟨i',s',b2,b3⟩
theorem gT.inj {l:List Nd} {i:Nat} {s s':Tre} (h:gT l i s) (k:gT l i s'):s=s':=by
 obtain⟨r,h1⟩:=h;obtain⟨r',h2⟩:=k;obtain⟨x,hx,_,hs,_⟩:=gT.sn ⟨r,h1⟩;obtain⟨x',nq,_,fp,_⟩:=gT.sn ⟨r',h2⟩;rw[hx]at nq; cases nq;have:=Tre.wx s.flat.length [s] [s'] r r' (by simp) (by simpa using h1.symm.trans h2) (by simp; omega);simpa using this
end Go.Rip
