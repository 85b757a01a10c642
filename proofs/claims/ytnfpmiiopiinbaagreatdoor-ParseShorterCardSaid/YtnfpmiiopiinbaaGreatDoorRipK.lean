/- Lemmas for the proof: no conditions. -/
import Derived.Test.YtnfpmiiopiinbaaGreatDoorRipZz
import Derived.Test.YtnfpmiiopiinbaaGreatDoorRipI
set_option linter.unusedVariables false
set_option linter.unusedSimpArgs false
set_option linter.loopingSimpArgs false
namespace Go.Rip
inductive iQ where
 | item | type | base | term | arg | kind (k:Int)
def cj (k:Int):Bool:=decide (9 <= k/\k <= 34)
def oM (k:Int):Bool:=decide (k=6\/k=7)
def pE (k:Int):Bool:=decide (k=6\/k=7\/k=8)
def iY (k:Int):Bool:=decide (2 <= k/\k <= 4)
def nz (k:Int):Bool:=decide (9 <= k/\k <= 36)
def iQ.is:iQ->Int->Bool
 | .item,k=>iY k
 | .type,k=>pE k
 | .base,k=>oM k
 | .term,k=>cj k
 | .arg,k=>nz k
 | .kind c,k=>decide (k=c)
structure lF where
 c:iQ
 least:Nat
 oh:Nat
structure gl where
 text:Bool
 n:Bool
 m:Bool
 kids:List lF
def bA (k:Int):Option gl :=
 if k=1 then some ⟨false,false,false,[⟨.item,0,900⟩]⟩
 else if k=2 then some ⟨true,false,false,[⟨.type,1,1⟩]⟩
 else if k=3\/k=4 then some ⟨true,false,false,[⟨.kind 5,0,900⟩,⟨.base,1,1⟩,⟨.term,1,1⟩]⟩
 else if k=5 then some ⟨true,false,false,[⟨.type,1,1⟩]⟩
 else if k=6\/k=7 then some ⟨false,true,false,[]⟩
 else if k=8 then some ⟨false,false,false,[⟨.base,2,900⟩]⟩
 else if k=9 then some ⟨false,false,false,[⟨.term,2,900⟩]⟩
 else if k=10 then some ⟨false,false,false,[⟨.term,3,3⟩]⟩
 else if k=11\/k=15\/k=17\/k=18\/20 <= k/\k <= 24 then some ⟨false,false,false,[⟨.term,2,2⟩]⟩
 else if k=12 then some ⟨true,true,true,[⟨.term,1,1⟩]⟩
 else if k=13 then some ⟨true,false,false,[⟨.term,2,2⟩]⟩
 else if k=14 then some ⟨true,true,false,[⟨.term,1,1⟩]⟩
 else if k=16 then some ⟨true,false,false,[⟨.term,1,1⟩]⟩
 else if k=19 then some ⟨false,false,false,[⟨.term,1,1⟩]⟩
 else if k=25 then some ⟨false,true,false,[⟨.term,1,1⟩]⟩
 else if k=26 then some ⟨false,true,false,[]⟩
 else if 27 <= k/\k <= 30 then some ⟨false,false,false,[]⟩
 else if k=31\/k=32\/k=33\/k=37 then some ⟨true,false,false,[]⟩
 else if k=34 then some ⟨true,false,false,[⟨.arg,1,900⟩]⟩
 else if k=35 then some ⟨false,false,false,[⟨.kind 37,1,900⟩,⟨.term,1,1⟩]⟩
 else if k=36 then some ⟨false,false,false,[⟨.term,1,1⟩,⟨.kind 37,1,1⟩,⟨.term,1,1⟩]⟩
 else none
def dP:List Int->List lF->Bool
 | ks,[]=>ks.isEmpty
 | ks,s::rest =>
   let many:=((ks.take (min (ks.length - (rest.map (·.least)).sum) s.oh)).takeWhile s.c.is).length
   if many < s.least then false else dP (ks.drop many) rest
def kL (s:aG):Bool:=decide (ic s=(0,1,s))
def dH (n:Int):Bool:=decide (0 <= n/\n <= 1000000)
def eg (x:Nd) (f:gl):Bool:=(f.text == (x.text != [])) && (!f.text || kL x.text) && dH x.n && dH x.m && (f.n || x.n == 0) && (f.m || x.m == 0)
inductive Tre where
 | mk (kind:Int) (text:aG) (n m at_:Int) (kids:List Tre)
namespace Tre
def kind:Tre->Int | mk k _ _ _ _ _=>k
def text:Tre->aG | mk _ t _ _ _ _=>t
def n:Tre->Int | mk _ _ n _ _ _=>n
def m:Tre->Int | mk _ _ _ m _ _=>m
def at_:Tre->Int | mk _ _ _ _ a _=>a
def kids:Tre->List Tre | mk _ _ _ _ _ ks=>ks
mutual
def flat:Tre->List Nd
 | mk k t n m a ks=>node k t n m a (bq ks)
def bq:List Tre->List Nd
 | []=>[]
 | t::ts=>flat t++bq ts
end
mutual
def ok:Tre->Bool
 | mk k t n m a ks=>(match bA k with
   | some f=>eg ⟨k,t,n,m,a,0⟩ f && dP (ks.map kind) f.kids
   | none=>false) && sY ks
def sY:List Tre->Bool
 | []=>true
 | t::ts=>ok t && sY ts
end
mutual
def deep:Tre->Nat
 | mk _ _ _ _ _ ks=>pC ks
def pC:List Tre->Nat
 | []=>0
 | t::ts=>max (deep t+1) (pC ts)
end
end Tre
abbrev Tx:=Nat × aG
def az (s:aG):Tx:=(match s with | c::_=>if lT c then 3 else 4 | []=>4,s)
def eC (s:aG):Tx:=(1,s)
def kZ:Nat->Nat->aG
 | 0,_=>[]
 | f+1,n=>if n < 10 then [(48+n).toUInt8] else kZ f (n / 10)++[(48+n % 10).toUInt8]
def mK (n:Int):aG:=kZ 20 n.toNat
def iI (n:Int):Tx:=(2,mK n)
def bJ (k:Int):Nat :=
 if k=9 then 0 else if 10 <= k/\k <= 16 then 1 else if k=17 then 2 else if k=18 then 3 else if k=19 then 4 else if k=20\/k=21 then 5 else if k=22\/k=23 then 6 else if k=24 then 7 else if k=25 then 8 else 9
def jP (k:Int):aG :=
 if k=17 then CA else if k=18 then yD else if k=20 then gk else if k=21 then sO else if k=22 then sN else if k=23 then rO else if k=24 then tT else tu
def dL (k:Int) (least:Nat) (l:List Tx):List Tx:=if least <= bJ k then l else az cB::l++[az cg]
def cX (w:aG):List (List Tx)->List Tx
 | []=>[]
 | [l]=>l
 | l::m::ls=>l++az w::cX w (m::ls)
def aU (k:Int) (t:aG) (n m:Int) (ks:List (Int × List Tx)):List Tx :=
 let g (i:Nat):List Tx:=(ks.getD i (0,[])).2
 let b (least i:Nat):List Tx:=dL (ks.getD i (0,[])).1 least (g i)
 let all:=ks.map (·.2)
 if k=2 then az dI::eC t::az cW::g 0++[az cn]
 else if k=3\/k=4 then az (if k=3 then fH else dz)::eC t::az cB::cX cw (all.take (ks.length - 2))++az cg::az cW::g (ks.length - 2)++az gk::g (ks.length - 1)++[az cn]
 else if k=5 then eC t::az cW::g 0
 else if k=6 then (if n=1 then [az pb] else if n=2 then [az kT] else [az gy,iI n])
 else if k=7 then [az jR,iI n]
 else if k=8 then az cB::cX cw (all.take (ks.length - 1))++az cg::az fF::g (ks.length - 1)
 else if k=9 then cX cn (ks.map fun x=>dL x.1 1 x.2)
 else if k=10 then az ox::b 1 0++az nP::b 1 1++az eG::b 1 2
 else if k=11 then az fX::b 1 0++az rP::b 1 1
 else if k=12 then az lh::eC t::az cW::iI n::az bL::iI m::az jJ::b 1 0
 else if k=13 then az il::eC t::az jJ::b 1 0++az eG::b 1 1
 else if k=14 then az ig::eC t::az bL::iI n::az jJ::b 1 0
 else if k=15 then az gH::b 1 0++az eG::b 1 1
 else if k=16 then eC t::az bL::b 1 0
 else if k=19 then az pK::b 4 0
 else if k=25 then b 8 0++[az tu,iI n]
 else if 17 <= k/\k <= 24 then b (if bJ k=5 then 6 else bJ k) 0++az (jP k)::b (bJ k+1) 1
 else if k=26 then [iI n]
 else if k=27 then [az dy]
 else if k=28 then [az dB]
 else if k=29 then [az fB]
 else if k=30 then [az gK]
 else if k=31 then [az jS,eC t]
 else if k=32 then [az lZ,eC t]
 else if k=33\/k=37 then [eC t]
 else if k=34 then eC t::az cB::cX cw all++[az cg]
 else if k=35 then az qF::az cB::cX cw (all.take (ks.length - 1))++az cg::b 1 (ks.length - 1)
 else if k=36 then az nf::az vI::b 1 0++az cn::az vJ::g 1++az tU::b 1 2++[az qq]
 else []
namespace Tre
mutual
def pr:Tre->List Tx
 | mk k t n m _ ks=>aU k t n m (QJ ks)
def QJ:List Tre->List (Int × List Tx)
 | []=>[]
 | t::ts=>(t.kind,pr t)::QJ ts
end
end Tre
def fU (a b:Tx):Bool:=(a.1 != 4 && b.1 != 4) || (a.2 == cW && b.2 == gk)
def cL:List Tx->aG
 | []=>[]
 | [a]=>a.2
 | a::b::l=>a.2++(if fU a b then [32] else [])++cL (b::l)
def eY (l:List Tx):aG × Int:=if 900 < l.length then ([],5) else if 2500 < (cL l).length then ([],5) else (cL l,0)
end Go.Rip
namespace Go.Rip
def fl (l:List Nd) (en:Int):Nat->Nat->List Nat
 | 0,_=>[]
 | f+1,p=>match l[p]? with
   | some x=>if (p:Int) < en/\0 < x.size then p::fl l en f (p+x.size.toNat) else []
   | none=>[]
def iu:List Nd->Nat->List Int->Bool
 | [],_,_=>false
 | x::r,n,es=>if 60 < (es.filter ((n:Int) < ·)).length then true else iu r (n+1) (es.filter ((n:Int) < ·)++[(n:Int)+x.size])
def lX (l:List Nd):Int:=match l with | x::_=>x.size | []=>0
def jt (l:List Nd):Bool:=iu l 0 [] || decide (24 < (fl l (lX l) l.length 1).length)
namespace Tre
theorem eA {k:Int} {t:aG} {n m a:Int} {ks:List Tre}:flat (mk k t n m a ks)=⟨k,t,n,m,a,((bq ks).length:Int)+1⟩::bq ks:=by rw [flat]; rfl
@[simp] theorem mq:bq []=[]:=by rw [bq]
@[simp] theorem cx {t:Tre} {ts:List Tre}:bq (t::ts)=flat t++bq ts:=by rw [bq]
theorem eW:∀ (l l':List Tre),bq (l++l')=bq l++bq l'
 | [],l'=>by simp
 | t::l,l'=>by simp [eW l l']
@[simp] theorem agG:sY []=true:=by rw [sY]
@[simp] theorem sr {t:Tre} {ts:List Tre}:sY (t::ts)=(ok t && sY ts):=by rw [sY]
theorem rC:∀ (l l':List Tre),sY (l++l')=(sY l && sY l')
 | [],l'=>by simp
 | t::l,l'=>by simp [rC l l',Bool.and_assoc]
@[simp] theorem X8 {k:Int} {t:aG} {n m a:Int} {ks:List Tre}:deep (mk k t n m a ks)=pC ks:=by rw [deep]
@[simp] theorem qI:pC []=0:=by rw [pC]
@[simp] theorem tN {t:Tre} {ts:List Tre}:pC (t::ts)=max (deep t+1) (pC ts):=by rw [pC]
theorem dE:∀ t:Tre,0 < t.flat.length
 | mk k t n m a ks=>by rw [eA]; simp
theorem nS:∀ ts:List Tre,ts.length <= (bq ts).length
 | []=>by simp
 | t::ts=>by
   have:=nS ts
   have:=dE t
   simp; omega
theorem qL:∀ t:Tre,∃ x r,t.flat=x::r/\x.kind=t.kind/\x.size=t.flat.length/\x.text=t.text/\x.n=t.n/\x.m=t.m/\x.at_=t.at_/\r=bq t.kids
 | mk k t n m a ks=>⟨_,_,eA,rfl,by rw [eA]; simp,rfl,rfl,rfl,rfl,rfl⟩
theorem u6:∀ (N:Nat) (ts rW:List Tre) (r r':List Nd),(bq ts).length <= N->bq ts++r=bq rW++r'->(bq ts).length=(bq rW).length->ts=rW
 | N,[],[],_,_,_,_,_=>rfl
 | N,[],t::ts,_,_,_,_,h=>by have:=dE t; simp only [cx,mq,cM,ko] at h; omega
 | N,t::ts,[],_,_,_,_,h=>by have:=dE t; simp only [cx,mq,cM,ko] at h; omega
 | 0,t::ts,_,_,_,hN,_,_=>by have:=dE t; simp only [cx,cM] at hN; omega
 | N+1,mk k t n m a ks::ts,mk k' t' n' m' a' ks'::rW,r,r',hN,h,hl=>by
   simp only [cx,eA,gE,gi,List.cons.injEq,Nd.mk.injEq,fm,cM] at h hl hN
   obtain ⟨⟨rfl,rfl,rfl,rfl,rfl,hs⟩,h⟩:=h
   have hs:(bq ks).length=(bq ks').length:=by omega
   have e:=u6 N ks ks' (bq ts++r) (bq rW++r') (by omega) h hs
   subst e
   have h2:=List.append_cancel_left h
   have e:=u6 N ts rW r r' (by omega) h2 (by omega)
   rw [e]
theorem HV {t t':Tre} (h:t.flat=t'.flat):t=t':=by
 have:=u6 (bq [t]).length [t] [t'] [] [] (bT _) (by simp [h]) (by simp [h])
 simpa using this
end Tre
def fj:Nat->List Tre->List Nat
 | _,[]=>[]
 | p,t::ts=>p::fj (p+t.flat.length) ts
theorem qo:∀ (p:Nat) (ts:List Tre),(fj p ts).length=ts.length
 | _,[]=>rfl
 | p,t::ts=>by simp [fj,qo]
def re (l:List Nd) (p:Nat) (ts:List Tre):Prop:=∃ r,l.drop p=Tre.bq ts++r
def gn (l:List Nd) (p:Nat) (t:Tre):Prop:=∃ r,l.drop p=t.flat++r
section
variable {l:List Nd} {p:Nat} {t:Tre} {ts:List Tre}
theorem re.head (h:re l p (t::ts)):gn l p t:=by
 obtain ⟨r,h⟩:=h
 exact ⟨Tre.bq ts++r,by rw [h]; simp⟩
theorem re.tail (h:re l p (t::ts)):re l (p+t.flat.length) ts:=by
 obtain ⟨r,h⟩:=h
 refine ⟨r,?_⟩
 rw [<- List.drop_drop,h]
 simp
theorem gn.rh (h:gn l p t):∃ x,l[p]?=some x/\x.kind=t.kind/\x.size=t.flat.length/\x.text=t.text/\x.n=t.n/\x.m=t.m/\x.at_=t.at_:=by
 obtain ⟨r,h⟩:=h
 obtain ⟨x,r',h1,h2,h3,h4,h5,h6,h7,h8⟩:=t.qL
 refine ⟨x,?_,h2,h3,h4,h5,h6,h7⟩
 rw [h1] at h
 have:(l.drop p)[0]?=some x:=by rw [h]; rfl
 simpa using this
theorem gn.le (h:gn l p t):p+t.flat.length <= l.length:=by
 obtain ⟨r,h⟩:=h
 have h':=congrArg List.length h
 have:=t.dE
 simp only [List.length_drop,cM] at h'; omega
theorem gn.kids (h:gn l p t):re l (p+1) t.kids:=by
 obtain ⟨r,h⟩:=h
 obtain ⟨x,r',h1,h2,h3,h4,h5,h6,h7,h8⟩:=t.qL
 refine ⟨r,?_⟩
 rw [<- List.drop_drop,h,h1,h8]
 rfl
theorem mL (t:Tre):t.flat.length=(Tre.bq t.kids).length+1:=by
 cases t with
 | mk k t n m a ks=>rw [Tre.eA]; rfl
theorem gn.whole (t:Tre):gn t.flat 0 t:=⟨[],by simp⟩
theorem FU:∀ (ts:List Tre) (p f:Nat),re l p ts->ts.length <= f->fl l ((p:Int)+(Tre.bq ts).length) f p=fj p ts
 | [],p,0,h,hf=>rfl
 | [],p,f+1,h,hf=>by
   simp only [fl,fj,Tre.mq,ko]
   split
   . rw [if_neg (by omega)]
   . rfl
 | t::ts,p,0,h,hf=>by simp at hf
 | t::ts,p,f+1,h,hf=>by
   obtain ⟨x,hx,_,hs,_⟩:=h.head.rh
   have hp:=t.dE
   simp only [fl,fj,hx]
   rw [if_pos (by simp; omega)]
   have:=FU ts (p+t.flat.length) f h.tail (by simp at hf; omega)
   have e:p+x.size.toNat=p+t.flat.length:=by omega
   rw [e,<- this]
   congr 2
   simp; omega
theorem xW (h:gn l p t):fl l ((p:Int)+t.flat.length) l.length (p+1)=fj (p+1) t.kids:=by
 have:=FU t.kids (p+1) l.length h.kids (by
  have:=h.le
  have:=mL t
  have:=Tre.nS t.kids
  omega)
 rw [<- this]
 have:=mL t
 congr 1
 omega
theorem xj:∀ (N:Nat) (ts:List Tre) (p:Nat),(Tre.bq ts).length <= N->re l p ts->∀ i,p <= i->i < p+(Tre.bq ts).length->∃ t,gn l i t/\(Tre.sY ts=true->t.ok=true)
 | N,[],p,hN,h,i,h1,h2=>by simp at h2; omega
 | 0,t::ts,p,hN,h,i,h1,h2=>by have:=t.dE; simp only [Tre.cx,cM] at hN; omega
 | N+1,.mk k tx n m a ks::ts,p,hN,h,i,h1,h2=>by
   simp only [Tre.cx,Tre.eA,cM,fm] at hN h2
   by_cases he:i=p
   . subst he
     refine ⟨_,h.head,fun ho=>?_⟩
     rw [Tre.sr,bS] at ho
     exact ho.1
   . by_cases hi:i < p+((Tre.bq ks).length+1)
     . obtain ⟨t,ht,ho⟩:=xj N ks (p+1) (by omega) h.head.kids i (by omega) (by omega)
       refine ⟨t,ht,fun hk=>ho ?_⟩
       rw [Tre.sr,Tre.ok] at hk
       simp only [bS] at hk
       exact hk.1.2
     . obtain ⟨t,ht,ho⟩:=xj N ts (p+(Tre.flat (.mk k tx n m a ks)).length) (by omega) h.tail i (by rw [Tre.eA]; simp; omega) (by rw [Tre.eA]; simp; omega)
       refine ⟨t,ht,fun hk=>ho ?_⟩
       rw [Tre.sr,bS] at hk
       exact hk.2
end
theorem yO (l:List Nd) (n:Nat) (es:List Int):iu l n (es.filter ((n:Int) < ·))=iu l n es:=by
 cases l with
 | nil=>rfl
 | cons x r=>simp only [iu,List.filter_filter,Bool.and_self]
theorem zp:∀ (N:Nat) (ts:List Tre) (n:Nat) (es:List Int) (r:List Nd),(Tre.bq ts).length <= N->(∀ e ∈ es,(n:Int)+(Tre.bq ts).length <= e) ->
 iu (Tre.bq ts++r) n es=((decide (ts ≠ []) && decide (60 < es.length+(Tre.pC ts - 1))) || iu r (n+(Tre.bq ts).length) es)
 | N,[],n,es,r,hN,zu=>by simp
 | 0,t::ts,n,es,r,hN,zu=>by have:=t.dE; simp only [Tre.cx,cM] at hN; omega
 | N+1,.mk k tx a b c ks::ts,n,es,r,hN,zu=>by
   simp only [Tre.cx,Tre.eA,cM,fm] at hN zu
   have hfe:es.filter ((n:Int) < ·)=es:=by
    rw [List.filter_eq_self]
    intro e he
    have:=zu e he
    simp only [ee]
    omega
   simp only [Tre.cx,Tre.eA,gE,gi,iu,hfe,Tre.tN,Tre.X8]
   by_cases wM:60 < es.length
   . rw [if_pos wM]
     simp; omega
   . rw [if_neg wM]
     have h1:=zp N ks (n+1) (es++[(n:Int)+(((Tre.bq ks).length:Int)+1)]) (Tre.bq ts++r) (by omega) (fun e he=>by
      simp only [gu,jX] at he
      rcases he with he | rfl
      . have:=zu e he; omega
      . omega)
     rw [h1]
     have h2:iu (Tre.bq ts++r) (n+1+(Tre.bq ks).length) (es++[(n:Int)+(((Tre.bq ks).length:Int)+1)])=iu (Tre.bq ts++r) (n+1+(Tre.bq ks).length) es:=by
      rw [<- yO,<- yO (es:=es)]
      congr 1
      rw [List.filter_append]
      have:List.filter (fun x=>decide (((n+1+(Tre.bq ks).length:Nat):Int) < x)) [(n:Int)+(((Tre.bq ks).length:Int)+1)]=[]:=by
       rw [List.filter_cons_of_neg,List.filter_nil]
       simp only [ee]; omega
      rw [this,gD]
     rw [h2]
     have h3:=zp N ts (n+1+(Tre.bq ks).length) es r (by omega) (fun e he=>by have:=zu e he; omega)
     rw [h3]
     have e1:n+1+(Tre.bq ks).length+(Tre.bq ts).length=n+((Tre.flat (.mk k tx a b c ks)).length+(Tre.bq ts).length):=by rw [Tre.eA]; simp; omega
     have e2:n+((Tre.bq ks).length+1+(Tre.bq ts).length)=n+1+(Tre.bq ks).length+(Tre.bq ts).length:=by omega
     simp only [cM,fm,ko,e2,Tre.eA]
     rw [<- Bool.or_assoc]
     congr 1
     rw [pW]
     have hd:ks=[]->Tre.pC ks=0:=fun e=>by rw [e,Tre.qI]
     have yQ:ts=[]->Tre.pC ts=0:=fun e=>by rw [e,Tre.qI]
     have hdp:ks ≠ []->0 < Tre.pC ks:=fun e=>by
      cases ks with
      | nil=>exact absurd rfl e
      | cons t ks=>rw [Tre.tN]; omega
     have abh:ts ≠ []->0 < Tre.pC ts:=fun e=>by
      cases ts with
      | nil=>exact absurd rfl e
      | cons t ks=>rw [Tre.tN]; omega
     simp only [jW,bS,ee,ne_eq,reduceCtorEq,not_false_eq_true,true_and]
     by_cases hk:ks=[]
     . have:=hd hk
       by_cases ht:ts=[]
       . have:=yQ ht
         rw [ht] at this
         simp only [hk,ht,not_true,false_and,or_false,false_iff,Tre.qI]; omega
       . have:=abh ht
         simp only [hk,ht,not_true,false_and,false_or,not_false_eq_true,true_and,Tre.qI]; omega
     . have:=hdp hk
       by_cases ht:ts=[]
       . simp only [hk,ht,not_true,false_and,or_false,not_false_eq_true,true_and,Tre.qI]; omega
       . have:=abh ht
         simp only [hk,ht,not_false_eq_true,true_and]; omega
     congr 1; omega
theorem Ko (t:Tre):iu t.flat 0 []=decide (60 < t.deep):=by
 have:=zp t.flat.length [t] 0 [] [] (by simp) (by simp)
 simp only [Tre.cx,Tre.mq,gD,Tre.tN,Tre.qI,ne_eq,reduceCtorEq,not_false_eq_true,dZ,Bool.true_and,ko] at this
 rw [this]
 simp only [iu,Bool.or_false]
 rw [pW]; simp only [ee]; omega
theorem vT (t:Tre):jt t.flat=(decide (60 < t.deep) || decide (24 < t.kids.length)):=by
 unfold jt
 rw [Ko]
 have h:=xW (gn.whole t)
 have hs:lX t.flat=((0:Nat):Int)+t.flat.length:=by
  obtain ⟨x,r,h1,_,h3,_⟩:=t.qL
  rw [h1] at h3 ⊢
  simp only [lX]; omega
 rw [hs,h,qo]
open Classical in
noncomputable def Cu (l:List Nd):Option Tre:=if h:∃ t:Tre,l=t.flat then some h.choose else none
theorem Gz (t:Tre):Cu t.flat=some t:=by
 unfold Cu
 have h:∃ t':Tre,t.flat=t'.flat:=⟨t,rfl⟩
 rw [dif_pos h]
 have:=h.choose_spec
 rw [<- Tre.HV this]
theorem Tp {l:List Nd} {t:Tre} (h:Cu l=some t):l=t.flat:=by
 unfold Cu at h
 split at h
 . rename_i h'
   have:=h'.choose_spec
   cases h
   exact this
 . cases h
def BY (t:Tre):Int:=if t.kind ≠ 1\/t.ok=false then 4 else if 60 < t.deep\/24 < t.kids.length then 5 else 0
noncomputable def gp (l:List Nd):Int:=if 900 < l.length then 5 else match Cu l with | none=>4 | some t=>BY t
theorem zd (t:Tre) (h:¬ 900 < t.flat.length):gp t.flat=BY t:=by unfold gp; rw [if_neg h,Gz]
end Go.Rip
namespace Go.Rip
def sP (l:List Nd) (e:Nat):Nat->Nat->Nat
 | 0,p=>p
 | f+1,p=>if p < e then sP l e f (p+((l[p]?.map Nd.size).getD 0).toNat) else p
def gw (l:List Nd) (i:Nat):Nat:=((l[i]?.map Nd.size).getD 0).toNat
def CD (l:List Nd):Prop:=l ≠ []/\lX l=l.length/\∀ (i:Nat) (x:Nd),l[i]?=some x->1 <= x.size/\x.size <= (l.length:Int) - i
def GP (l:List Nd):Prop:=CD l/\∀ (i:Nat) (x:Nd),l[i]?=some x->sP l (i+x.size.toNat) l.length (i+1)=i+x.size.toNat
theorem yG {l:List Nd} {e p:Nat} (h:¬ p < e):∀ f,sP l e f p=p
 | 0=>rfl
 | f+1=>by rw [sP,if_neg h]
theorem yF {l:List Nd} {e p f:Nat} {x:Nd} (hx:l[p]?=some x) (h:p < e):sP l e (f+1) p=sP l e f (p+x.size.toNat):=by
 rw [sP,if_pos h,hx]; rfl
theorem D0 {l:List Nd}:∀ (ts:List Tre) (p f:Nat),re l p ts->ts.length <= f->sP l (p+(Tre.bq ts).length) f p=p+(Tre.bq ts).length
 | [],p,f,h,hf=>by rw [Tre.mq,yG (by simp)]; rfl
 | t::ts,p,0,h,hf=>by simp at hf
 | t::ts,p,f+1,h,hf=>by
   obtain ⟨x,hx,_,hs,_⟩:=h.head.rh
   have hp:=t.dE
   rw [yF hx (by simp; omega)]
   have:=D0 ts (p+t.flat.length) f h.tail (by simp at hf; omega)
   have e:p+x.size.toNat=p+t.flat.length:=by omega
   have e2:p+(Tre.bq (t::ts)).length=p+t.flat.length+(Tre.bq ts).length:=by simp; omega
   rw [e,e2,this]
theorem Ob (t:Tre):GP t.flat:=by
 have sub:∀ i x,t.flat[i]?=some x->∃ t',gn t.flat i t':=fun i x hx=>by
  have hi:=(dC.1 hx).1
  obtain ⟨t',h,_⟩:=xj (l:=t.flat) t.flat.length [t] 0 (by simp) ⟨[],by simp⟩ i (by omega) (by simpa using hi)
  exact ⟨t',h⟩
 refine ⟨⟨?_,?_,fun i x hx=>?_⟩,fun i x hx=>?_⟩
 . have:=t.dE
   intro e; rw [e] at this; simp at this
 . obtain ⟨x,r,h1,_,h3,_⟩:=t.qL
   rw [h1] at h3 ⊢; exact h3
 . obtain ⟨t',h⟩:=sub i x hx
   obtain ⟨y,hy,_,hs,_⟩:=h.rh
   rw [hx] at hy; cases hy
   have:=h.le
   have:=t'.dE
   omega
 . obtain ⟨t',h⟩:=sub i x hx
   obtain ⟨y,hy,_,hs,_⟩:=h.rh
   rw [hx] at hy; cases hy
   have hl:=mL t'
   have:=D0 t'.kids (i+1) t.flat.length h.kids (by
    have:=h.le
    have:=Tre.nS t'.kids
    omega)
   have e:i+x.size.toNat=i+1+(Tre.bq t'.kids).length:=by omega
   rw [e]; exact this
theorem Ab {l:List Nd} (hs:GP l):∀ (N i e f:Nat),e - i <= N->i <= e->e <= l.length->e - i <= f->sP l e f i=e->∃ ts,l.drop i=Tre.bq ts++l.drop e/\(Tre.bq ts).length=e - i
 | N,i,e,f,hN,hie,he,hf,hw=>by
   by_cases h:i=e
   . subst h; exact ⟨[],by simp,by simp⟩
   . cases N with
     | zero=>omega
     | succ N =>
     cases f with
     | zero=>omega
     | succ f =>
     obtain ⟨x,hx⟩:∃ x,l[i]?=some x:=⟨l[i]'(by omega),by simp⟩
     have hsx:=hs.1.2.2 i x hx
     rw [yF hx (by omega)] at hw
     have hse:i+x.size.toNat <= e:=by
      rcases kO e (i+x.size.toNat) with h1 | h1
      . rw [yG (by omega)] at hw; omega
      . exact h1
     obtain ⟨ks,k1,k2⟩:=Ab hs N (i+1) (i+x.size.toNat) l.length (by omega) (by omega) (by omega) (by omega) (hs.2 i x hx)
     obtain ⟨ts,t1,t2⟩:=Ab hs N (i+x.size.toNat) e f (by omega) hse he (by omega) hw
     have WM:(Tre.mk x.kind x.text x.n x.m x.at_ ks).flat=x::Tre.bq ks:=by
      rw [Tre.eA]
      have:((Tre.bq ks).length:Int)+1=x.size:=by omega
      rw [this]
     refine ⟨.mk x.kind x.text x.n x.m x.at_ ks::ts,?_,?_⟩
     . have hd:l.drop i=x::l.drop (i+1):=by
        rw [ib (by omega)]
        have:=(dC.1 hx).2
        rw [this]
       rw [hd,k1,t1,Tre.cx,WM]
       simp
     . rw [Tre.cx,WM]; simp; omega
theorem Gs (l:List Nd):GP l ↔ ∃ t:Tre,l=t.flat:=by
 refine ⟨fun h=>?_,fun ⟨t,ht⟩=>ht ▸ Ob t⟩
 cases l with
 | nil=>exact absurd rfl h.1.1
 | cons x r =>
   have fh:x.size=(r.length:Int)+1:=by have:=h.1.2.1; simpa [lX] using this
   have hw:=h.2 0 x rfl
   obtain ⟨ks,k1,k2⟩:=Ab h r.length 1 (r.length+1) (r.length+1) (by omega) (by omega) (by simp) (by omega) (by
    have e:0+x.size.toNat=r.length+1:=by omega
    rw [e] at hw; exact hw)
   refine ⟨.mk x.kind x.text x.n x.m x.at_ ks,?_⟩
   rw [Tre.eA]
   have hr:r=Tre.bq ks:=by
    have:(x::r).drop 1=r:=rfl
    rw [this,List.drop_of_length_le (by simp),gD] at k1
    exact k1
   rw [<- hr,<- fh]
theorem Cx {p:Int->Bool}:∀ {l:List Int},(∀ x ∈ l,p x=true)->l.takeWhile p=l
 | [],_=>rfl
 | a::l,h=>by rw [l9,if_pos (h a (by simp)),Cx fun x hx=>h x (by simp [hx])]
theorem JV {p:Int->Bool}:∀ {l:List Int},l.takeWhile p=l->∀ x ∈ l,p x=true
 | [],_=>by simp
 | a::l,h=>by
   rw [l9] at h
   split at h
   . rename_i ha
     intro x hx
     rcases cJ.1 hx with rfl | hx
     . exact ha
     . exact JV (List.cons.inj h).2 x hx
   . cases h
theorem AB (c:iQ) (lo hi:Nat) (ks:List Int):dP ks [⟨c,lo,hi⟩]=(decide (lo <= ks.length/\ks.length <= hi) && ks.all c.is):=by
 rw [dP]
 simp only [nF,List.sum_nil,Nat.sub_zero,dP]
 have hle:((ks.take (min ks.length hi)).takeWhile c.is).length <= min ks.length hi:=by
  have:=(wb c.is (l:=ks.take (min ks.length hi))).length_le
  rw [List.length_take] at this; omega
 rw [pW]
 constructor
 . intro h
   split at h
   . cases h
   . rename_i h1
     have h2:ks.length <= ((ks.take (min ks.length hi)).takeWhile c.is).length:=by
      have:(ks.drop ((ks.take (min ks.length hi)).takeWhile c.is).length).length=0:=by
       rw [List.isEmpty_iff.1 h]; rfl
      rw [List.length_drop] at this; omega
     have u7:=Nat.le_trans h2 hle
     have h3:ks.take (min ks.length hi)=ks:=qD (by omega)
     rw [h3] at h1 h2
     have h4:ks.takeWhile c.is=ks:=(wb c.is).eq_of_length_le h2
     have h5:=JV h4
     rw [h4] at h1
     simp only [bS,ee,fe]
     exact ⟨⟨by omega,by omega⟩,h5⟩
 . intro h
   simp only [bS,ee,fe] at h
   obtain ⟨⟨h1,h2⟩,h3⟩:=h
   have e1:ks.take (min ks.length hi)=ks:=qD (by omega)
   have e2:ks.takeWhile c.is=ks:=Cx h3
   rw [e1,e2,if_neg (by omega)]
   simp
theorem oA:∀ (cs:List iQ) (ks:List Int),dP ks (cs.map fun c=>⟨c,1,1⟩)=true->ks.length=cs.length
 | [],ks,h=>by simp only [nF,dP,List.isEmpty_iff] at h; simp [h]
 | c::cs,ks,h=>by
   rw [eh,dP] at h
   simp only at h
   split at h
   . cases h
   . rename_i h1
     have h7:=oA cs _ h
     have hle:∀ n,((ks.take (min n 1)).takeWhile c.is).length <= 1/\((ks.take (min n 1)).takeWhile c.is).length <= ks.length:=fun n=>by
      have:=(wb c.is (l:=ks.take (min n 1))).length_le
      rw [List.length_take] at this; omega
     have h8:=hle (ks.length - ((cs.map fun c=>(⟨c,1,1⟩:lF)).map (·.least)).sum)
     rw [List.length_drop] at h7
     have key:∀ q a b:Nat,¬ q < 1->a - q=b->q <= 1/\q <= a->a=b+1:=by omega
     rw [fm]
     exact key _ _ _ h1 h7 h8
theorem JP (cs:List iQ):((cs.map fun c=>(⟨c,1,1⟩:lF)).map (·.least)).sum=cs.length:=by
 induction cs with
 | nil=>rfl
 | cons c cs ih=>simp only [eh,List.sum_cons,fm,ih]; omega
theorem wB (c:iQ) (cs:List iQ) (k:Int) (ks:List Int) (h:ks.length=cs.length):dP (k::ks) (⟨c,1,1⟩::cs.map fun c=>⟨c,1,1⟩)=(c.is k && dP ks (cs.map fun c=>⟨c,1,1⟩)):=by
 rw [dP]
 simp only [JP]
 have:min ((k::ks).length - cs.length) 1=1:=by simp; omega
 rw [this]
 simp only [List.take_succ_cons,List.take_zero,l9,List.takeWhile_nil]
 cases c.is k <;> simp
theorem Bd (s:lF) (cs:List iQ) (ks:List Int) (hm:ks.length <= s.oh+cs.length):dP ks (s::cs.map fun c=>⟨c,1,1⟩)=(decide (s.least+cs.length <= ks.length) && ((ks.take (ks.length - cs.length)).all s.c.is && dP (ks.drop (ks.length - cs.length)) (cs.map fun c=>⟨c,1,1⟩))):=by
 rw [dP]
 simp only [JP]
 have e0:min (ks.length - cs.length) s.oh=ks.length - cs.length:=by omega
 rw [e0]
 have hle:((ks.take (ks.length - cs.length)).takeWhile s.c.is).length <= ks.length - cs.length:=by
  have:=(wb s.c.is (l:=ks.take (ks.length - cs.length))).length_le
  rw [List.length_take] at this; omega
 by_cases cm:∀ x ∈ ks.take (ks.length - cs.length),s.c.is x=true
 . have e2:(ks.take (ks.length - cs.length)).takeWhile s.c.is=ks.take (ks.length - cs.length):=Cx cm
   have e3:(ks.take (ks.length - cs.length)).all s.c.is=true:=fe.2 cm
   rw [e2,e3,List.length_take,Nat.min_eq_left (by omega)]
   by_cases h:s.least+cs.length <= ks.length
   . rw [if_neg (by omega)]; simp [h]
   . rw [decide_eq_false h,Bool.false_and]
     by_cases h2:ks.length - cs.length < s.least
     . rw [if_pos h2]
     . rw [if_neg h2]
       have:s.least=0:=by omega
       cases hf:dP (ks.drop (ks.length - cs.length)) (cs.map fun c=>⟨c,1,1⟩) with
       | false=>rfl
       | true =>
         have:=oA cs _ hf
         rw [List.length_drop] at this
         omega
 . have e3:(ks.take (ks.length - cs.length)).all s.c.is=false:=by
    cases h:(ks.take (ks.length - cs.length)).all s.c.is with
    | false=>rfl
    | true=>exact absurd (fe.1 h) cm
   rw [e3,Bool.false_and,Bool.and_false]
   have aQ:((ks.take (ks.length - cs.length)).takeWhile s.c.is).length < ks.length - cs.length:=by
    refine Nat.lt_of_le_of_ne hle fun e=>cm ?_
    have:(ks.take (ks.length - cs.length)).takeWhile s.c.is=ks.take (ks.length - cs.length):=(wb _).eq_of_length_le (by rw [List.length_take]; omega)
    exact JV this
   split
   . rfl
   . cases hf:dP (ks.drop ((ks.take (ks.length - cs.length)).takeWhile s.c.is).length) (cs.map fun c=>⟨c,1,1⟩) with
     | false=>rfl
     | true =>
       have:=oA cs _ hf
       rw [List.length_drop] at this
       omega
end Go.Rip
namespace Go.Rip
mutual
def zg:Nat->Tre->List Nat
 | d,.mk _ _ _ _ _ ks=>d::ri (d+1) ks
def ri:Nat->List Tre->List Nat
 | _,[]=>[]
 | d,t::ts=>zg d t++ri d ts
end
@[simp] theorem aeU {d:Nat}:ri d []=[]:=by rw [ri]
@[simp] theorem MM {d:Nat} {t:Tre} {ts:List Tre}:ri d (t::ts)=zg d t++ri d ts:=by rw [ri]
theorem Ef {d:Nat} {k:Int} {t:aG} {n m a:Int} {ks:List Tre}:zg d (.mk k t n m a ks)=d::ri (d+1) ks:=by rw [zg]
theorem uh:∀ (N:Nat) (ts:List Tre) (d:Nat),(Tre.bq ts).length <= N->(ri d ts).length=(Tre.bq ts).length
 | _,[],_,_=>by simp
 | 0,t::ts,_,h=>by have:=t.dE; simp only [Tre.cx,cM] at h; omega
 | N+1,.mk k t n m a ks::ts,d,h=>by
   simp only [Tre.cx,Tre.eA,cM,fm] at h
   have h1:=uh N ks (d+1) (by omega)
   have h2:=uh N ts d (by omega)
   simp only [MM,Ef,Tre.cx,Tre.eA,cM,fm,h1,h2]
theorem Kd (d:Nat) (t:Tre):(zg d t).length=t.flat.length:=by
 have:=uh _ [t] d (bT _)
 simpa using this
def ue (D:List Nat) (p d:Nat) (ts:List Tre):Prop:=∃ r,D.drop p=ri d ts++r
section
variable {l:List Nd} {D:List Nat} {p d:Nat} {t:Tre} {ts:List Tre}
theorem ue.rh (h:ue D p d (t::ts)):D[p]?=some d:=by
 obtain ⟨r,h⟩:=h
 have:(D.drop p)[0]?=some d:=by
  rw [h]
  cases t
  simp [Ef]
 simpa using this
theorem ue.tail (h:ue D p d (t::ts)):ue D (p+t.flat.length) d ts:=by
 obtain ⟨r,h⟩:=h
 refine ⟨r,?_⟩
 rw [<- List.drop_drop,h,<- Kd d t]
 simp
theorem ue.kids (h:ue D p d (t::ts)):ue D (p+1) (d+1) t.kids:=by
 obtain ⟨r,h⟩:=h
 cases t with
 | mk k tx n m a ks =>
 refine ⟨ri d ts++r,?_⟩
 rw [<- List.drop_drop,h]
 simp [Ef,Tre.kids]
theorem zT:∀ (N:Nat) (ts:List Tre) (p d:Nat),(Tre.bq ts).length <= N->re l p ts->ue D p d ts->∀ i,p <= i->i < p+(Tre.bq ts).length ->
 (∃ s e,gn l i s/\D[i]?=some e/\ue D (i+1) (e+1) s.kids/\e+p <= d+i)/\(i ∈ fj p ts\/∃ i' s',p <= i'/\i' < i/\gn l i' s'/\i ∈ fj (i'+1) s'.kids)
 | N,[],p,d,hN,h,hd,i,h1,h2=>by simp at h2; omega
 | 0,t::ts,p,d,hN,h,hd,i,h1,h2=>by have:=t.dE; simp only [Tre.cx,cM] at hN; omega
 | N+1,t::ts,p,d,hN,h,hd,i,h1,h2=>by
   have Bk:=mL t
   simp only [Tre.cx,cM] at hN h2
   by_cases he:i=p
   . subst he
     exact ⟨⟨t,d,h.head,hd.rh,hd.kids,bT _⟩,.inl (by simp [fj])⟩
   . by_cases hi:i < p+t.flat.length
     . obtain ⟨⟨s,e,a1,a2,a3,a4⟩,b⟩:=zT N t.kids (p+1) (d+1) (by omega) h.head.kids hd.kids i (by omega) (by omega)
       refine ⟨⟨s,e,a1,a2,a3,by omega⟩,.inr ?_⟩
       rcases b with b | ⟨i',s',b1,b2,b3⟩
       . exact ⟨p,t,bT _,by omega,h.head,b⟩
       . exact ⟨i',s',by omega,b2,b3⟩
     . have:=t.dE
       obtain ⟨⟨s,e,a1,a2,a3,a4⟩,b⟩:=zT N ts (p+t.flat.length) d (by omega) h.tail hd.tail i (by omega) (by omega)
       refine ⟨⟨s,e,a1,a2,a3,by omega⟩,?_⟩
       rcases b with b | ⟨i',s',b1,b2,b3⟩
       . exact .inl (by simp [fj,b])
       . exact .inr ⟨i',s',by omega,b2,b3⟩
end
theorem place (t:Tre) {i:Nat} (hi:i < t.flat.length):(∃ s e,gn t.flat i s/\(zg 0 t)[i]?=some e/\ue (zg 0 t) (i+1) (e+1) s.kids/\e <= i)/\(i=0\/∃ i' s',i' < i/\gn t.flat i' s'/\i ∈ fj (i'+1) s'.kids):=by
 obtain ⟨⟨s,e,a1,a2,a3,a4⟩,b⟩:=zT (l:=t.flat) (D:=zg 0 t) t.flat.length [t] 0 0 (by simp) ⟨[],by simp⟩ ⟨[],by simp⟩ i (by omega) (by simpa using hi)
 refine ⟨⟨s,e,a1,a2,a3,by omega⟩,?_⟩
 rcases b with b | ⟨i',s',b1,b2,b3⟩
 . simp only [fj,cJ,List.not_mem_nil,or_false] at b
   exact .inl b
 . exact .inr ⟨i',s',b2,b3⟩
theorem gn.inj {l:List Nd} {i:Nat} {s s':Tre} (h:gn l i s) (k:gn l i s'):s=s':=by
 obtain ⟨r,h1⟩:=h
 obtain ⟨r',h2⟩:=k
 obtain ⟨x,hx,_,hs,_⟩:=gn.rh ⟨r,h1⟩
 obtain ⟨x',mv,_,eU,_⟩:=gn.rh ⟨r',h2⟩
 rw [hx] at mv; cases mv
 have:=Tre.u6 s.flat.length [s] [s'] r r' (by simp) (by simpa using h1.symm.trans h2) (by simp; omega)
 simpa using this
end Go.Rip
