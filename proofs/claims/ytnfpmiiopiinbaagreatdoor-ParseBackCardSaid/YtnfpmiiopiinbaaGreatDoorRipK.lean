/- Lemmas for the proof: no conditions. -/
import Derived.Test.YtnfpmiiopiinbaaGreatDoorRipZz
import Derived.Test.YtnfpmiiopiinbaaGreatDoorRipI
set_option linter.unusedVariables false
set_option linter.unusedSimpArgs false
set_option linter.loopingSimpArgs false
namespace Go.Rip
inductive iK where
 | item | type | base | term | arg | kind (k:Int)
def cq (k:Int):Bool:=decide (9 <= k/\k <= 34)
def oD (k:Int):Bool:=decide (k=6\/k=7)
def pC (k:Int):Bool:=decide (k=6\/k=7\/k=8)
def iQ (k:Int):Bool:=decide (2 <= k/\k <= 4)
def ng (k:Int):Bool:=decide (9 <= k/\k <= 36)
def iK.is:iK->Int->Bool
 | .item,k=>iQ k
 | .type,k=>pC k
 | .base,k=>oD k
 | .term,k=>cq k
 | .arg,k=>ng k
 | .kind c,k=>decide (k=c)
structure lh where
 c:iK
 least:Nat
 nV:Nat
structure gd where
 text:Bool
 n:Bool
 m:Bool
 kids:List lh
def bC (k:Int):Option gd :=
 if k=1 then some ⟨false,false,false,[⟨.item,0,900⟩]⟩
 else if k=2 then some ⟨true,false,false,[⟨.type,1,1⟩]⟩
 else if k=3\/k=4 then some ⟨true,false,false,[⟨.kind 5,0,900⟩,⟨.base,1,1⟩,⟨.term,1,1⟩]⟩
 else if k=5 then some ⟨true,false,false,[⟨.type,1,1⟩]⟩
 else if k=6\/k=7 then some ⟨false,true,false,[]⟩
 else if k=8 then some ⟨false,false,false,[⟨.base,2,900⟩]⟩
 else if k=9 then some ⟨false,false,false,[⟨.term,2,900⟩]⟩
 else if k=10 then some ⟨false,false,false,[⟨.term,3,3⟩]⟩
 else if k=11\/k=15\/k=17\/k=18\/20 <= k/\k <= 24 then some ⟨false,false,false,[⟨.term,2,2⟩]⟩
 else if k=12 then some ⟨true,true,true,[⟨.term,1,1⟩]⟩
 else if k=13 then some ⟨true,false,false,[⟨.term,2,2⟩]⟩
 else if k=14 then some ⟨true,true,false,[⟨.term,1,1⟩]⟩
 else if k=16 then some ⟨true,false,false,[⟨.term,1,1⟩]⟩
 else if k=19 then some ⟨false,false,false,[⟨.term,1,1⟩]⟩
 else if k=25 then some ⟨false,true,false,[⟨.term,1,1⟩]⟩
 else if k=26 then some ⟨false,true,false,[]⟩
 else if 27 <= k/\k <= 30 then some ⟨false,false,false,[]⟩
 else if k=31\/k=32\/k=33\/k=37 then some ⟨true,false,false,[]⟩
 else if k=34 then some ⟨true,false,false,[⟨.arg,1,900⟩]⟩
 else if k=35 then some ⟨false,false,false,[⟨.kind 37,1,900⟩,⟨.term,1,1⟩]⟩
 else if k=36 then some ⟨false,false,false,[⟨.term,1,1⟩,⟨.kind 37,1,1⟩,⟨.term,1,1⟩]⟩
 else none
def dQ:List Int->List lh->Bool
 | ks,[]=>ks.isEmpty
 | ks,s::rest =>
   let many:=((ks.take (min (ks.length - (rest.map (·.least)).sum) s.nV)).takeWhile s.c.is).length
   if many < s.least then false else dQ (ks.drop many) rest
def kI (s:aK):Bool:=decide (iI s=(0,1,s))
def dH (n:Int):Bool:=decide (0 <= n/\n <= 1000000)
def ee (x:Nd) (f:gd):Bool:=(f.text == (x.text != [])) && (!f.text || kI x.text) && dH x.n && dH x.m && (f.n || x.n == 0) && (f.m || x.m == 0)
inductive Tre where
 | mk (kind:Int) (text:aK) (n m at_:Int) (kids:List Tre)
namespace Tre
def kind:Tre->Int | mk k _ _ _ _ _=>k
def text:Tre->aK | mk _ t _ _ _ _=>t
def n:Tre->Int | mk _ _ n _ _ _=>n
def m:Tre->Int | mk _ _ _ m _ _=>m
def at_:Tre->Int | mk _ _ _ _ a _=>a
def kids:Tre->List Tre | mk _ _ _ _ _ ks=>ks
mutual
def flat:Tre->List Nd
 | mk k t n m a ks=>node k t n m a (bG ks)
def bG:List Tre->List Nd
 | []=>[]
 | t::ts=>flat t++bG ts
end
mutual
def ok:Tre->Bool
 | mk k t n m a ks=>(match bC k with
   | some f=>ee ⟨k,t,n,m,a,0⟩ f && dQ (ks.map kind) f.kids
   | none=>false) && sW ks
def sW:List Tre->Bool
 | []=>true
 | t::ts=>ok t && sW ts
end
mutual
def deep:Tre->Nat
 | mk _ _ _ _ _ ks=>pA ks
def pA:List Tre->Nat
 | []=>0
 | t::ts=>max (deep t+1) (pA ts)
end
end Tre
abbrev Tx:=Nat × aK
def aC (s:aK):Tx:=(match s with | c::_=>if lI c then 3 else 4 | []=>4,s)
def eF (s:aK):Tx:=(1,s)
def mc:Nat->Nat->aK
 | 0,_=>[]
 | f+1,n=>if n < 10 then [(48+n).toUInt8] else mc f (n / 10)++[(48+n % 10).toUInt8]
def nM (n:Int):aK:=mc 20 n.toNat
def jl (n:Int):Tx:=(2,nM n)
def bR (k:Int):Nat :=
 if k=9 then 0 else if 10 <= k/\k <= 16 then 1 else if k=17 then 2 else if k=18 then 3 else if k=19 then 4 else if k=20\/k=21 then 5 else if k=22\/k=23 then 6 else if k=24 then 7 else if k=25 then 8 else 9
def kN (k:Int):aK :=
 if k=17 then Cr else if k=18 then yp else if k=20 then gY else if k=21 then sN else if k=22 then sM else if k=23 then rP else if k=24 then tS else uN
def eK (k:Int) (least:Nat) (l:List Tx):List Tx:=if least <= bR k then l else aC cP::l++[aC cC]
def dz (w:aK):List (List Tx)->List Tx
 | []=>[]
 | [l]=>l
 | l::m::ls=>l++aC w::dz w (m::ls)
def bw (k:Int) (t:aK) (n m:Int) (ks:List (Int × List Tx)):List Tx :=
 let g (i:Nat):List Tx:=(ks.getD i (0,[])).2
 let b (least i:Nat):List Tx:=eK (ks.getD i (0,[])).1 least (g i)
 let all:=ks.map (·.2)
 if k=2 then aC dI::eF t::aC ez::g 0++[aC cH]
 else if k=3\/k=4 then aC (if k=3 then ga else eg)::eF t::aC cP::dz cV (all.take (ks.length - 2))++aC cC::aC ez::g (ks.length - 2)++aC gY::g (ks.length - 1)++[aC cH]
 else if k=5 then eF t::aC ez::g 0
 else if k=6 then (if n=1 then [aC sO] else if n=2 then [aC ow] else [aC ku,jl n])
 else if k=7 then [aC jH,jl n]
 else if k=8 then aC cP::dz cV (all.take (ks.length - 1))++aC cC::aC fO::g (ks.length - 1)
 else if k=9 then dz cH (ks.map fun x=>eK x.1 1 x.2)
 else if k=10 then aC oe::b 1 0++aC oy::b 1 1++aC eU::b 1 2
 else if k=11 then aC fW::b 1 0++aC sE::b 1 1
 else if k=12 then aC kQ::eF t::aC ez::jl n::aC bV::jl m::aC kK::b 1 0
 else if k=13 then aC ij::eF t::aC kK::b 1 0++aC eU::b 1 1
 else if k=14 then aC hZ::eF t::aC bV::jl n::aC kK::b 1 0
 else if k=15 then aC gq::b 1 0++aC eU::b 1 1
 else if k=16 then eF t::aC bV::b 1 0
 else if k=19 then aC pJ::b 4 0
 else if k=25 then b 8 0++[aC uN,jl n]
 else if 17 <= k/\k <= 24 then b (if bR k=5 then 6 else bR k) 0++aC (kN k)::b (bR k+1) 1
 else if k=26 then [jl n]
 else if k=27 then [aC dB]
 else if k=28 then [aC dE]
 else if k=29 then [aC fB]
 else if k=30 then [aC gw]
 else if k=31 then [aC jI,eF t]
 else if k=32 then [aC lM,eF t]
 else if k=33\/k=37 then [eF t]
 else if k=34 then eF t::aC cP::dz cV all++[aC cC]
 else if k=35 then aC rR::aC cP::dz cV (all.take (ks.length - 1))++aC cC::b 1 (ks.length - 1)
 else if k=36 then aC mO::aC yq::b 1 0++aC cH::aC yr::g 1++aC vw::b 1 2++[aC rQ]
 else []
namespace Tre
mutual
def pr:Tre->List Tx
 | mk k t n m _ ks=>bw k t n m (P8 ks)
def P8:List Tre->List (Int × List Tx)
 | []=>[]
 | t::ts=>(t.kind,pr t)::P8 ts
end
end Tre
def oh (a b:Tx):Bool:=(a.1 != 4 && b.1 != 4) || (a.2 == ez && b.2 == gY)
def dh:List Tx->aK
 | []=>[]
 | [a]=>a.2
 | a::b::l=>a.2++(if oh a b then [32] else [])++dh (b::l)
def fy (l:List Tx):aK × Int:=if 900 < l.length then ([],5) else if 2500 < (dh l).length then ([],5) else (dh l,0)
end Go.Rip
namespace Go.Rip
def fj (l:List Nd) (en:Int):Nat->Nat->List Nat
 | 0,_=>[]
 | f+1,p=>match l[p]? with
   | some x=>if (p:Int) < en/\0 < x.size then p::fj l en f (p+x.size.toNat) else []
   | none=>[]
def ir:List Nd->Nat->List Int->Bool
 | [],_,_=>false
 | x::r,n,es=>if 60 < (es.filter ((n:Int) < ·)).length then true else ir r (n+1) (es.filter ((n:Int) < ·)++[(n:Int)+x.size])
def lK (l:List Nd):Int:=match l with | x::_=>x.size | []=>0
def ji (l:List Nd):Bool:=ir l 0 [] || decide (24 < (fj l (lK l) l.length 1).length)
namespace Tre
theorem fp {k:Int} {t:aK} {n m a:Int} {ks:List Tre}:flat (mk k t n m a ks)=⟨k,t,n,m,a,((bG ks).length:Int)+1⟩::bG ks:=by rw [flat]; rfl
@[simp] theorem o9:bG []=[]:=by rw [bG]
@[simp] theorem cS {t:Tre} {ts:List Tre}:bG (t::ts)=flat t++bG ts:=by rw [bG]
theorem gM:∀ (l l':List Tre),bG (l++l')=bG l++bG l'
 | [],l'=>by simp
 | t::l,l'=>by simp [gM l l']
@[simp] theorem agA:sW []=true:=by rw [sW]
@[simp] theorem sr {t:Tre} {ts:List Tre}:sW (t::ts)=(ok t && sW ts):=by rw [sW]
theorem rD:∀ (l l':List Tre),sW (l++l')=(sW l && sW l')
 | [],l'=>by simp
 | t::l,l'=>by simp [rD l l',Bool.and_assoc]
@[simp] theorem XP {k:Int} {t:aK} {n m a:Int} {ks:List Tre}:deep (mk k t n m a ks)=pA ks:=by rw [deep]
@[simp] theorem qI:pA []=0:=by rw [pA]
@[simp] theorem tM {t:Tre} {ts:List Tre}:pA (t::ts)=max (deep t+1) (pA ts):=by rw [pA]
theorem ef:∀ t:Tre,0 < t.flat.length
 | mk k t n m a ks=>by rw [fp]; simp
theorem nF:∀ ts:List Tre,ts.length <= (bG ts).length
 | []=>by simp
 | t::ts=>by
   have:=nF ts
   have:=ef t
   simp; omega
theorem qL:∀ t:Tre,∃ x r,t.flat=x::r/\x.kind=t.kind/\x.size=t.flat.length/\x.text=t.text/\x.n=t.n/\x.m=t.m/\x.at_=t.at_/\r=bG t.kids
 | mk k t n m a ks=>⟨_,_,fp,rfl,by rw [fp]; simp,rfl,rfl,rfl,rfl,rfl⟩
theorem uX:∀ (N:Nat) (ts BJ:List Tre) (r r':List Nd),(bG ts).length <= N->bG ts++r=bG BJ++r'->(bG ts).length=(bG BJ).length->ts=BJ
 | N,[],[],_,_,_,_,_=>rfl
 | N,[],t::ts,_,_,_,_,h=>by have:=ef t; simp only [cS,o9,df,lB] at h; omega
 | N,t::ts,[],_,_,_,_,h=>by have:=ef t; simp only [cS,o9,df,lB] at h; omega
 | 0,t::ts,_,_,_,hN,_,_=>by have:=ef t; simp only [cS,df] at hN; omega
 | N+1,mk k t n m a ks::ts,mk k' t' n' m' a' ks'::BJ,r,r',hN,h,hl=>by
   simp only [cS,fp,ix,gn,List.cons.injEq,Nd.mk.injEq,gU,df] at h hl hN
   obtain ⟨⟨rfl,rfl,rfl,rfl,rfl,hs⟩,h⟩:=h
   have hs:(bG ks).length=(bG ks').length:=by omega
   have e:=uX N ks ks' (bG ts++r) (bG BJ++r') (by omega) h hs
   subst e
   have h2:=List.append_cancel_left h
   have e:=uX N ts BJ r r' (by omega) h2 (by omega)
   rw [e]
theorem TG {t t':Tre} (h:t.flat=t'.flat):t=t':=by
 have:=uX (bG [t]).length [t] [t'] [] [] (cX _) (by simp [h]) (by simp [h])
 simpa using this
end Tre
def eu:Nat->List Tre->List Nat
 | _,[]=>[]
 | p,t::ts=>p::eu (p+t.flat.length) ts
theorem qn:∀ (p:Nat) (ts:List Tre),(eu p ts).length=ts.length
 | _,[]=>rfl
 | p,t::ts=>by simp [eu,qn]
def mR (l:List Nd) (p:Nat) (ts:List Tre):Prop:=∃ r,l.drop p=Tre.bG ts++r
def gm (l:List Nd) (p:Nat) (t:Tre):Prop:=∃ r,l.drop p=t.flat++r
section
variable {l:List Nd} {p:Nat} {t:Tre} {ts:List Tre}
theorem mR.head (h:mR l p (t::ts)):gm l p t:=by
 obtain ⟨r,h⟩:=h
 exact ⟨Tre.bG ts++r,by rw [h]; simp⟩
theorem mR.tail (h:mR l p (t::ts)):mR l (p+t.flat.length) ts:=by
 obtain ⟨r,h⟩:=h
 refine ⟨r,?_⟩
 rw [<- List.drop_drop,h]
 simp
theorem mR.app {BJ:List Tre} (h:mR l p (ts++BJ)):mR l p ts/\mR l (p+(Tre.bG ts).length) BJ:=by
 obtain ⟨r,h⟩:=h
 refine ⟨⟨Tre.bG BJ++r,by rw [h,Tre.gM]; simp⟩,⟨r,?_⟩⟩
 rw [<- List.drop_drop,h,Tre.gM]
 simp
theorem gm.qG (h:gm l p t):∃ x,l[p]?=some x/\x.kind=t.kind/\x.size=t.flat.length/\x.text=t.text/\x.n=t.n/\x.m=t.m/\x.at_=t.at_:=by
 obtain ⟨r,h⟩:=h
 obtain ⟨x,r',h1,h2,h3,h4,h5,h6,h7,h8⟩:=t.qL
 refine ⟨x,?_,h2,h3,h4,h5,h6,h7⟩
 rw [h1] at h
 have:(l.drop p)[0]?=some x:=by rw [h]; rfl
 simpa using this
theorem gm.le (h:gm l p t):p+t.flat.length <= l.length:=by
 obtain ⟨r,h⟩:=h
 have h':=congrArg List.length h
 have:=t.ef
 simp only [List.length_drop,df] at h'; omega
theorem mR.le (h:mR l p ts) (hp:p <= l.length):p+(Tre.bG ts).length <= l.length:=by
 obtain ⟨r,h⟩:=h
 have:=congrArg List.length h
 simp at this; omega
theorem gm.kids (h:gm l p t):mR l (p+1) t.kids:=by
 obtain ⟨r,h⟩:=h
 obtain ⟨x,r',h1,h2,h3,h4,h5,h6,h7,h8⟩:=t.qL
 refine ⟨r,?_⟩
 rw [<- List.drop_drop,h,h1,h8]
 rfl
theorem nN (t:Tre):t.flat.length=(Tre.bG t.kids).length+1:=by
 cases t with
 | mk k t n m a ks=>rw [Tre.fp]; rfl
theorem gm.whole (t:Tre):gm t.flat 0 t:=⟨[],by simp⟩
theorem FD:∀ (ts:List Tre) (p f:Nat),mR l p ts->ts.length <= f->fj l ((p:Int)+(Tre.bG ts).length) f p=eu p ts
 | [],p,0,h,hf=>rfl
 | [],p,f+1,h,hf=>by
   simp only [fj,eu,Tre.o9,lB]
   split
   . rw [if_neg (by omega)]
   . rfl
 | t::ts,p,0,h,hf=>by simp at hf
 | t::ts,p,f+1,h,hf=>by
   obtain ⟨x,hx,_,hs,_⟩:=h.head.qG
   have hp:=t.ef
   simp only [fj,eu,hx]
   rw [if_pos (by simp; omega)]
   have:=FD ts (p+t.flat.length) f h.tail (by simp at hf; omega)
   have e:p+x.size.toNat=p+t.flat.length:=by omega
   rw [e,<- this]
   congr 2
   simp; omega
theorem xM (h:gm l p t):fj l ((p:Int)+t.flat.length) l.length (p+1)=eu (p+1) t.kids:=by
 have:=FD t.kids (p+1) l.length h.kids (by
  have:=h.le
  have:=nN t
  have:=Tre.nF t.kids
  omega)
 rw [<- this]
 have:=nN t
 congr 1
 omega
theorem wX:∀ (N:Nat) (ts:List Tre) (p:Nat),(Tre.bG ts).length <= N->mR l p ts->∀ i,p <= i->i < p+(Tre.bG ts).length->∃ t,gm l i t/\(Tre.sW ts=true->t.ok=true)
 | N,[],p,hN,h,i,h1,h2=>by simp at h2; omega
 | 0,t::ts,p,hN,h,i,h1,h2=>by have:=t.ef; simp only [Tre.cS,df] at hN; omega
 | N+1,.mk k tx n m a ks::ts,p,hN,h,i,h1,h2=>by
   simp only [Tre.cS,Tre.fp,df,gU] at hN h2
   by_cases he:i=p
   . subst he
     refine ⟨_,h.head,fun ho=>?_⟩
     rw [Tre.sr,bX] at ho
     exact ho.1
   . by_cases hi:i < p+((Tre.bG ks).length+1)
     . obtain ⟨t,ht,ho⟩:=wX N ks (p+1) (by omega) h.head.kids i (by omega) (by omega)
       refine ⟨t,ht,fun hk=>ho ?_⟩
       rw [Tre.sr,Tre.ok] at hk
       simp only [bX] at hk
       exact hk.1.2
     . obtain ⟨t,ht,ho⟩:=wX N ts (p+(Tre.flat (.mk k tx n m a ks)).length) (by omega) h.tail i (by rw [Tre.fp]; simp; omega) (by rw [Tre.fp]; simp; omega)
       refine ⟨t,ht,fun hk=>ho ?_⟩
       rw [Tre.sr,bX] at hk
       exact hk.2
end
theorem yF (l:List Nd) (n:Nat) (es:List Int):ir l n (es.filter ((n:Int) < ·))=ir l n es:=by
 cases l with
 | nil=>rfl
 | cons x r=>simp only [ir,List.filter_filter,Bool.and_self]
theorem zn:∀ (N:Nat) (ts:List Tre) (n:Nat) (es:List Int) (r:List Nd),(Tre.bG ts).length <= N->(∀ e ∈ es,(n:Int)+(Tre.bG ts).length <= e) ->
 ir (Tre.bG ts++r) n es=((decide (ts ≠ []) && decide (60 < es.length+(Tre.pA ts - 1))) || ir r (n+(Tre.bG ts).length) es)
 | N,[],n,es,r,hN,zp=>by simp
 | 0,t::ts,n,es,r,hN,zp=>by have:=t.ef; simp only [Tre.cS,df] at hN; omega
 | N+1,.mk k tx a b c ks::ts,n,es,r,hN,zp=>by
   simp only [Tre.cS,Tre.fp,df,gU] at hN zp
   have hfe:es.filter ((n:Int) < ·)=es:=by
    rw [List.filter_eq_self]
    intro e he
    have:=zp e he
    simp only [dS]
    omega
   simp only [Tre.cS,Tre.fp,ix,gn,ir,hfe,Tre.tM,Tre.XP]
   by_cases wD:60 < es.length
   . rw [if_pos wD]
     simp; omega
   . rw [if_neg wD]
     have h1:=zn N ks (n+1) (es++[(n:Int)+(((Tre.bG ks).length:Int)+1)]) (Tre.bG ts++r) (by omega) (fun e he=>by
      simp only [fS,jz] at he
      rcases he with he | rfl
      . have:=zp e he; omega
      . omega)
     rw [h1]
     have h2:ir (Tre.bG ts++r) (n+1+(Tre.bG ks).length) (es++[(n:Int)+(((Tre.bG ks).length:Int)+1)])=ir (Tre.bG ts++r) (n+1+(Tre.bG ks).length) es:=by
      rw [<- yF,<- yF (es:=es)]
      congr 1
      rw [List.filter_append]
      have:List.filter (fun x=>decide (((n+1+(Tre.bG ks).length:Nat):Int) < x)) [(n:Int)+(((Tre.bG ks).length:Int)+1)]=[]:=by
       rw [List.filter_cons_of_neg,List.filter_nil]
       simp only [dS]; omega
      rw [this,gy]
     rw [h2]
     have h3:=zn N ts (n+1+(Tre.bG ks).length) es r (by omega) (fun e he=>by have:=zp e he; omega)
     rw [h3]
     have e1:n+1+(Tre.bG ks).length+(Tre.bG ts).length=n+((Tre.flat (.mk k tx a b c ks)).length+(Tre.bG ts).length):=by rw [Tre.fp]; simp; omega
     have e2:n+((Tre.bG ks).length+1+(Tre.bG ts).length)=n+1+(Tre.bG ks).length+(Tre.bG ts).length:=by omega
     simp only [df,gU,lB,e2,Tre.fp]
     rw [<- Bool.or_assoc]
     congr 1
     rw [pU]
     have hd:ks=[]->Tre.pA ks=0:=fun e=>by rw [e,Tre.qI]
     have yH:ts=[]->Tre.pA ts=0:=fun e=>by rw [e,Tre.qI]
     have hdp:ks ≠ []->0 < Tre.pA ks:=fun e=>by
      cases ks with
      | nil=>exact absurd rfl e
      | cons t ks=>rw [Tre.tM]; omega
     have aaY:ts ≠ []->0 < Tre.pA ts:=fun e=>by
      cases ts with
      | nil=>exact absurd rfl e
      | cons t ks=>rw [Tre.tM]; omega
     simp only [jM,bX,dS,ne_eq,reduceCtorEq,not_false_eq_true,true_and]
     by_cases hk:ks=[]
     . have:=hd hk
       by_cases ht:ts=[]
       . have:=yH ht
         rw [ht] at this
         simp only [hk,ht,not_true,false_and,or_false,false_iff,Tre.qI]; omega
       . have:=aaY ht
         simp only [hk,ht,not_true,false_and,false_or,not_false_eq_true,true_and,Tre.qI]; omega
     . have:=hdp hk
       by_cases ht:ts=[]
       . simp only [hk,ht,not_true,false_and,or_false,not_false_eq_true,true_and,Tre.qI]; omega
       . have:=aaY ht
         simp only [hk,ht,not_false_eq_true,true_and]; omega
     congr 1; omega
theorem JY (t:Tre):ir t.flat 0 []=decide (60 < t.deep):=by
 have:=zn t.flat.length [t] 0 [] [] (by simp) (by simp)
 simp only [Tre.cS,Tre.o9,gy,Tre.tM,Tre.qI,ne_eq,reduceCtorEq,not_false_eq_true,du,Bool.true_and,lB] at this
 rw [this]
 simp only [ir,Bool.or_false]
 rw [pU]; simp only [dS]; omega
theorem vJ (t:Tre):ji t.flat=(decide (60 < t.deep) || decide (24 < t.kids.length)):=by
 unfold ji
 rw [JY]
 have h:=xM (gm.whole t)
 have hs:lK t.flat=((0:Nat):Int)+t.flat.length:=by
  obtain ⟨x,r,h1,_,h3,_⟩:=t.qL
  rw [h1] at h3 ⊢
  simp only [lK]; omega
 rw [hs,h,qn]
open Classical in
noncomputable def Ck (l:List Nd):Option Tre:=if h:∃ t:Tre,l=t.flat then some h.choose else none
theorem Gg (t:Tre):Ck t.flat=some t:=by
 unfold Ck
 have h:∃ t':Tre,t.flat=t'.flat:=⟨t,rfl⟩
 rw [dif_pos h]
 have:=h.choose_spec
 rw [<- Tre.TG this]
theorem SL {l:List Nd} {t:Tre} (h:Ck l=some t):l=t.flat:=by
 unfold Ck at h
 split at h
 . rename_i h'
   have:=h'.choose_spec
   cases h
   exact this
 . cases h
def BU (t:Tre):Int:=if t.kind ≠ 1\/t.ok=false then 4 else if 60 < t.deep\/24 < t.kids.length then 5 else 0
noncomputable def gx (l:List Nd):Int:=if 900 < l.length then 5 else match Ck l with | none=>4 | some t=>BU t
theorem zb (t:Tre) (h:¬ 900 < t.flat.length):gx t.flat=BU t:=by unfold gx; rw [if_neg h,Gg]
end Go.Rip
namespace Go.Rip
def sP (l:List Nd) (e:Nat):Nat->Nat->Nat
 | 0,p=>p
 | f+1,p=>if p < e then sP l e f (p+((l[p]?.map Nd.size).getD 0).toNat) else p
def gi (l:List Nd) (i:Nat):Nat:=((l[i]?.map Nd.size).getD 0).toNat
def Cv (l:List Nd):Prop:=l ≠ []/\lK l=l.length/\∀ (i:Nat) (x:Nd),l[i]?=some x->1 <= x.size/\x.size <= (l.length:Int) - i
def Gv (l:List Nd):Prop:=Cv l/\∀ (i:Nat) (x:Nd),l[i]?=some x->sP l (i+x.size.toNat) l.length (i+1)=i+x.size.toNat
theorem yw {l:List Nd} {e p:Nat} (h:¬ p < e):∀ f,sP l e f p=p
 | 0=>rfl
 | f+1=>by rw [sP,if_neg h]
theorem yu {l:List Nd} {e p f:Nat} {x:Nd} (hx:l[p]?=some x) (h:p < e):sP l e (f+1) p=sP l e f (p+x.size.toNat):=by
 rw [sP,if_pos h,hx]; rfl
theorem DL {l:List Nd}:∀ (ts:List Tre) (p f:Nat),mR l p ts->ts.length <= f->sP l (p+(Tre.bG ts).length) f p=p+(Tre.bG ts).length
 | [],p,f,h,hf=>by rw [Tre.o9,yw (by simp)]; rfl
 | t::ts,p,0,h,hf=>by simp at hf
 | t::ts,p,f+1,h,hf=>by
   obtain ⟨x,hx,_,hs,_⟩:=h.head.qG
   have hp:=t.ef
   rw [yu hx (by simp; omega)]
   have:=DL ts (p+t.flat.length) f h.tail (by simp at hf; omega)
   have e:p+x.size.toNat=p+t.flat.length:=by omega
   have e2:p+(Tre.bG (t::ts)).length=p+t.flat.length+(Tre.bG ts).length:=by simp; omega
   rw [e,e2,this]
theorem Nx (t:Tre):Gv t.flat:=by
 have sub:∀ i x,t.flat[i]?=some x->∃ t',gm t.flat i t':=fun i x hx=>by
  have hi:=(dx.1 hx).1
  obtain ⟨t',h,_⟩:=wX (l:=t.flat) t.flat.length [t] 0 (by simp) ⟨[],by simp⟩ i (by omega) (by simpa using hi)
  exact ⟨t',h⟩
 refine ⟨⟨?_,?_,fun i x hx=>?_⟩,fun i x hx=>?_⟩
 . have:=t.ef
   intro e; rw [e] at this; simp at this
 . obtain ⟨x,r,h1,_,h3,_⟩:=t.qL
   rw [h1] at h3 ⊢; exact h3
 . obtain ⟨t',h⟩:=sub i x hx
   obtain ⟨y,hy,_,hs,_⟩:=h.qG
   rw [hx] at hy; cases hy
   have:=h.le
   have:=t'.ef
   omega
 . obtain ⟨t',h⟩:=sub i x hx
   obtain ⟨y,hy,_,hs,_⟩:=h.qG
   rw [hx] at hy; cases hy
   have hl:=nN t'
   have:=DL t'.kids (i+1) t.flat.length h.kids (by
    have:=h.le
    have:=Tre.nF t'.kids
    omega)
   have e:i+x.size.toNat=i+1+(Tre.bG t'.kids).length:=by omega
   rw [e]; exact this
theorem z8 {l:List Nd} (hs:Gv l):∀ (N i e f:Nat),e - i <= N->i <= e->e <= l.length->e - i <= f->sP l e f i=e->∃ ts,l.drop i=Tre.bG ts++l.drop e/\(Tre.bG ts).length=e - i
 | N,i,e,f,hN,hie,he,hf,hw=>by
   by_cases h:i=e
   . subst h; exact ⟨[],by simp,by simp⟩
   . cases N with
     | zero=>omega
     | succ N =>
     cases f with
     | zero=>omega
     | succ f =>
     obtain ⟨x,hx⟩:∃ x,l[i]?=some x:=⟨l[i]'(by omega),by simp⟩
     have hsx:=hs.1.2.2 i x hx
     rw [yu hx (by omega)] at hw
     have hse:i+x.size.toNat <= e:=by
      rcases jL e (i+x.size.toNat) with h1 | h1
      . rw [yw (by omega)] at hw; omega
      . exact h1
     obtain ⟨ks,k1,k2⟩:=z8 hs N (i+1) (i+x.size.toNat) l.length (by omega) (by omega) (by omega) (by omega) (hs.2 i x hx)
     obtain ⟨ts,t1,t2⟩:=z8 hs N (i+x.size.toNat) e f (by omega) hse he (by omega) hw
     have Wi:(Tre.mk x.kind x.text x.n x.m x.at_ ks).flat=x::Tre.bG ks:=by
      rw [Tre.fp]
      have:((Tre.bG ks).length:Int)+1=x.size:=by omega
      rw [this]
     refine ⟨.mk x.kind x.text x.n x.m x.at_ ks::ts,?_,?_⟩
     . have hd:l.drop i=x::l.drop (i+1):=by
        rw [gT (by omega)]
        have:=(dx.1 hx).2
        rw [this]
       rw [hd,k1,t1,Tre.cS,Wi]
       simp
     . rw [Tre.cS,Wi]; simp; omega
theorem F9 (l:List Nd):Gv l ↔ ∃ t:Tre,l=t.flat:=by
 refine ⟨fun h=>?_,fun ⟨t,ht⟩=>ht ▸ Nx t⟩
 cases l with
 | nil=>exact absurd rfl h.1.1
 | cons x r =>
   have eP:x.size=(r.length:Int)+1:=by have:=h.1.2.1; simpa [lK] using this
   have hw:=h.2 0 x rfl
   obtain ⟨ks,k1,k2⟩:=z8 h r.length 1 (r.length+1) (r.length+1) (by omega) (by omega) (by simp) (by omega) (by
    have e:0+x.size.toNat=r.length+1:=by omega
    rw [e] at hw; exact hw)
   refine ⟨.mk x.kind x.text x.n x.m x.at_ ks,?_⟩
   rw [Tre.fp]
   have hr:r=Tre.bG ks:=by
    have:(x::r).drop 1=r:=rfl
    rw [this,List.drop_of_length_le (by simp),gy] at k1
    exact k1
   rw [<- hr,<- eP]
theorem Cn {p:Int->Bool}:∀ {l:List Int},(∀ x ∈ l,p x=true)->l.takeWhile p=l
 | [],_=>rfl
 | a::l,h=>by rw [oN,if_pos (h a (by simp)),Cn fun x hx=>h x (by simp [hx])]
theorem Jv {p:Int->Bool}:∀ {l:List Int},l.takeWhile p=l->∀ x ∈ l,p x=true
 | [],_=>by simp
 | a::l,h=>by
   rw [oN] at h
   split at h
   . rename_i ha
     intro x hx
     rcases cD.1 hx with rfl | hx
     . exact ha
     . exact Jv (List.cons.inj h).2 x hx
   . cases h
theorem Av (c:iK) (lo hi:Nat) (ks:List Int):dQ ks [⟨c,lo,hi⟩]=(decide (lo <= ks.length/\ks.length <= hi) && ks.all c.is):=by
 rw [dQ]
 simp only [nu,List.sum_nil,Nat.sub_zero,dQ]
 have hle:((ks.take (min ks.length hi)).takeWhile c.is).length <= min ks.length hi:=by
  have:=(vQ c.is (l:=ks.take (min ks.length hi))).length_le
  rw [List.length_take] at this; omega
 rw [pU]
 constructor
 . intro h
   split at h
   . cases h
   . rename_i h1
     have h2:ks.length <= ((ks.take (min ks.length hi)).takeWhile c.is).length:=by
      have:(ks.drop ((ks.take (min ks.length hi)).takeWhile c.is).length).length=0:=by
       rw [List.isEmpty_iff.1 h]; rfl
      rw [List.length_drop] at this; omega
     have Bc:=Nat.le_trans h2 hle
     have h3:ks.take (min ks.length hi)=ks:=qC (by omega)
     rw [h3] at h1 h2
     have h4:ks.takeWhile c.is=ks:=(vQ c.is).eq_of_length_le h2
     have h5:=Jv h4
     rw [h4] at h1
     simp only [bX,dS,fl]
     exact ⟨⟨by omega,by omega⟩,h5⟩
 . intro h
   simp only [bX,dS,fl] at h
   obtain ⟨⟨h1,h2⟩,h3⟩:=h
   have e1:ks.take (min ks.length hi)=ks:=qC (by omega)
   have e2:ks.takeWhile c.is=ks:=Cn h3
   rw [e1,e2,if_neg (by omega)]
   simp
theorem om:∀ (cs:List iK) (ks:List Int),dQ ks (cs.map fun c=>⟨c,1,1⟩)=true->ks.length=cs.length
 | [],ks,h=>by simp only [nu,dQ,List.isEmpty_iff] at h; simp [h]
 | c::cs,ks,h=>by
   rw [eC,dQ] at h
   simp only at h
   split at h
   . cases h
   . rename_i h1
     have h7:=om cs _ h
     have hle:∀ n,((ks.take (min n 1)).takeWhile c.is).length <= 1/\((ks.take (min n 1)).takeWhile c.is).length <= ks.length:=fun n=>by
      have:=(vQ c.is (l:=ks.take (min n 1))).length_le
      rw [List.length_take] at this; omega
     have h8:=hle (ks.length - ((cs.map fun c=>(⟨c,1,1⟩:lh)).map (·.least)).sum)
     rw [List.length_drop] at h7
     have key:∀ q a b:Nat,¬ q < 1->a - q=b->q <= 1/\q <= a->a=b+1:=by omega
     rw [gU]
     exact key _ _ _ h1 h7 h8
theorem Jp (cs:List iK):((cs.map fun c=>(⟨c,1,1⟩:lh)).map (·.least)).sum=cs.length:=by
 induction cs with
 | nil=>rfl
 | cons c cs ih=>simp only [eC,List.sum_cons,gU,ih]; omega
theorem wk (c:iK) (cs:List iK) (k:Int) (ks:List Int) (h:ks.length=cs.length):dQ (k::ks) (⟨c,1,1⟩::cs.map fun c=>⟨c,1,1⟩)=(c.is k && dQ ks (cs.map fun c=>⟨c,1,1⟩)):=by
 rw [dQ]
 simp only [Jp]
 have:min ((k::ks).length - cs.length) 1=1:=by simp; omega
 rw [this]
 simp only [List.take_succ_cons,List.take_zero,oN,List.takeWhile_nil]
 cases c.is k <;> simp
theorem A9 (s:lh) (cs:List iK) (ks:List Int) (hm:ks.length <= s.nV+cs.length):dQ ks (s::cs.map fun c=>⟨c,1,1⟩)=(decide (s.least+cs.length <= ks.length) && ((ks.take (ks.length - cs.length)).all s.c.is && dQ (ks.drop (ks.length - cs.length)) (cs.map fun c=>⟨c,1,1⟩))):=by
 rw [dQ]
 simp only [Jp]
 have e0:min (ks.length - cs.length) s.nV=ks.length - cs.length:=by omega
 rw [e0]
 have hle:((ks.take (ks.length - cs.length)).takeWhile s.c.is).length <= ks.length - cs.length:=by
  have:=(vQ s.c.is (l:=ks.take (ks.length - cs.length))).length_le
  rw [List.length_take] at this; omega
 by_cases cm:∀ x ∈ ks.take (ks.length - cs.length),s.c.is x=true
 . have e2:(ks.take (ks.length - cs.length)).takeWhile s.c.is=ks.take (ks.length - cs.length):=Cn cm
   have e3:(ks.take (ks.length - cs.length)).all s.c.is=true:=fl.2 cm
   rw [e2,e3,List.length_take,Nat.min_eq_left (by omega)]
   by_cases h:s.least+cs.length <= ks.length
   . rw [if_neg (by omega)]; simp [h]
   . rw [decide_eq_false h,Bool.false_and]
     by_cases h2:ks.length - cs.length < s.least
     . rw [if_pos h2]
     . rw [if_neg h2]
       have:s.least=0:=by omega
       cases hf:dQ (ks.drop (ks.length - cs.length)) (cs.map fun c=>⟨c,1,1⟩) with
       | false=>rfl
       | true =>
         have:=om cs _ hf
         rw [List.length_drop] at this
         omega
 . have e3:(ks.take (ks.length - cs.length)).all s.c.is=false:=by
    cases h:(ks.take (ks.length - cs.length)).all s.c.is with
    | false=>rfl
    | true=>exact absurd (fl.1 h) cm
   rw [e3,Bool.false_and,Bool.and_false]
   have aQ:((ks.take (ks.length - cs.length)).takeWhile s.c.is).length < ks.length - cs.length:=by
    refine Nat.lt_of_le_of_ne hle fun e=>cm ?_
    have:(ks.take (ks.length - cs.length)).takeWhile s.c.is=ks.take (ks.length - cs.length):=(vQ _).eq_of_length_le (by rw [List.length_take]; omega)
    exact Jv this
   split
   . rfl
   . cases hf:dQ (ks.drop ((ks.take (ks.length - cs.length)).takeWhile s.c.is).length) (cs.map fun c=>⟨c,1,1⟩) with
     | false=>rfl
     | true =>
       have:=om cs _ hf
       rw [List.length_drop] at this
       omega
end Go.Rip
namespace Go.Rip
mutual
def ze:Nat->Tre->List Nat
 | d,.mk _ _ _ _ _ ks=>d::ri (d+1) ks
def ri:Nat->List Tre->List Nat
 | _,[]=>[]
 | d,t::ts=>ze d t++ri d ts
end
@[simp] theorem aeJ {d:Nat}:ri d []=[]:=by rw [ri]
@[simp] theorem Mb {d:Nat} {t:Tre} {ts:List Tre}:ri d (t::ts)=ze d t++ri d ts:=by rw [ri]
theorem DX {d:Nat} {k:Int} {t:aK} {n m a:Int} {ks:List Tre}:ze d (.mk k t n m a ks)=d::ri (d+1) ks:=by rw [ze]
theorem ud:∀ (N:Nat) (ts:List Tre) (d:Nat),(Tre.bG ts).length <= N->(ri d ts).length=(Tre.bG ts).length
 | _,[],_,_=>by simp
 | 0,t::ts,_,h=>by have:=t.ef; simp only [Tre.cS,df] at h; omega
 | N+1,.mk k t n m a ks::ts,d,h=>by
   simp only [Tre.cS,Tre.fp,df,gU] at h
   have h1:=ud N ks (d+1) (by omega)
   have h2:=ud N ts d (by omega)
   simp only [Mb,DX,Tre.cS,Tre.fp,df,gU,h1,h2]
theorem JP (d:Nat) (t:Tre):(ze d t).length=t.flat.length:=by
 have:=ud _ [t] d (cX _)
 simpa using this
def sa (D:List Nat) (p d:Nat) (ts:List Tre):Prop:=∃ r,D.drop p=ri d ts++r
section
variable {l:List Nd} {D:List Nat} {p d:Nat} {t:Tre} {ts:List Tre}
theorem sa.qG (h:sa D p d (t::ts)):D[p]?=some d:=by
 obtain ⟨r,h⟩:=h
 have:(D.drop p)[0]?=some d:=by
  rw [h]
  cases t
  simp [DX]
 simpa using this
theorem sa.tail (h:sa D p d (t::ts)):sa D (p+t.flat.length) d ts:=by
 obtain ⟨r,h⟩:=h
 refine ⟨r,?_⟩
 rw [<- List.drop_drop,h,<- JP d t]
 simp
theorem sa.kids (h:sa D p d (t::ts)):sa D (p+1) (d+1) t.kids:=by
 obtain ⟨r,h⟩:=h
 cases t with
 | mk k tx n m a ks =>
 refine ⟨ri d ts++r,?_⟩
 rw [<- List.drop_drop,h]
 simp [DX,Tre.kids]
theorem sa.eu:∀ {ts:List Tre} {p:Nat},sa D p d ts->∀ i ∈ eu p ts,D[i]?=some d
 | [],p,h,i,hi=>by simp [Rip.eu] at hi
 | t::ts,p,h,i,hi=>by
   simp only [Rip.eu,cD] at hi
   rcases hi with rfl | hi
   . exact h.qG
   . exact h.tail.eu i hi
theorem zQ:∀ (N:Nat) (ts:List Tre) (p d:Nat),(Tre.bG ts).length <= N->mR l p ts->sa D p d ts->∀ i,p <= i->i < p+(Tre.bG ts).length ->
 (∃ s e,gm l i s/\D[i]?=some e/\sa D (i+1) (e+1) s.kids/\e+p <= d+i)/\(i ∈ eu p ts\/∃ i' s',p <= i'/\i' < i/\gm l i' s'/\i ∈ eu (i'+1) s'.kids)
 | N,[],p,d,hN,h,hd,i,h1,h2=>by simp at h2; omega
 | 0,t::ts,p,d,hN,h,hd,i,h1,h2=>by have:=t.ef; simp only [Tre.cS,df] at hN; omega
 | N+1,t::ts,p,d,hN,h,hd,i,h1,h2=>by
   have Bg:=nN t
   simp only [Tre.cS,df] at hN h2
   by_cases he:i=p
   . subst he
     exact ⟨⟨t,d,h.head,hd.qG,hd.kids,cX _⟩,.inl (by simp [eu])⟩
   . by_cases hi:i < p+t.flat.length
     . obtain ⟨⟨s,e,a1,a2,a3,a4⟩,b⟩:=zQ N t.kids (p+1) (d+1) (by omega) h.head.kids hd.kids i (by omega) (by omega)
       refine ⟨⟨s,e,a1,a2,a3,by omega⟩,.inr ?_⟩
       rcases b with b | ⟨i',s',b1,b2,b3⟩
       . exact ⟨p,t,cX _,by omega,h.head,b⟩
       . exact ⟨i',s',by omega,b2,b3⟩
     . have:=t.ef
       obtain ⟨⟨s,e,a1,a2,a3,a4⟩,b⟩:=zQ N ts (p+t.flat.length) d (by omega) h.tail hd.tail i (by omega) (by omega)
       refine ⟨⟨s,e,a1,a2,a3,by omega⟩,?_⟩
       rcases b with b | ⟨i',s',b1,b2,b3⟩
       . exact .inl (by simp [eu,b])
       . exact .inr ⟨i',s',by omega,b2,b3⟩
end
theorem place (t:Tre) {i:Nat} (hi:i < t.flat.length):(∃ s e,gm t.flat i s/\(ze 0 t)[i]?=some e/\sa (ze 0 t) (i+1) (e+1) s.kids/\e <= i)/\(i=0\/∃ i' s',i' < i/\gm t.flat i' s'/\i ∈ eu (i'+1) s'.kids):=by
 obtain ⟨⟨s,e,a1,a2,a3,a4⟩,b⟩:=zQ (l:=t.flat) (D:=ze 0 t) t.flat.length [t] 0 0 (by simp) ⟨[],by simp⟩ ⟨[],by simp⟩ i (by omega) (by simpa using hi)
 refine ⟨⟨s,e,a1,a2,a3,by omega⟩,?_⟩
 rcases b with b | ⟨i',s',b1,b2,b3⟩
 . simp only [eu,cD,List.not_mem_nil,or_false] at b
   exact .inl b
 . exact .inr ⟨i',s',b2,b3⟩
theorem gm.inj {l:List Nd} {i:Nat} {s s':Tre} (h:gm l i s) (k:gm l i s'):s=s':=by
 obtain ⟨r,h1⟩:=h
 obtain ⟨r',h2⟩:=k
 obtain ⟨x,hx,_,hs,_⟩:=gm.qG ⟨r,h1⟩
 obtain ⟨x',l9,_,eO,_⟩:=gm.qG ⟨r',h2⟩
 rw [hx] at l9; cases l9
 have:=Tre.uX s.flat.length [s] [s'] r r' (by simp) (by simpa using h1.symm.trans h2) (by simp; omega)
 simpa using this
end Go.Rip
