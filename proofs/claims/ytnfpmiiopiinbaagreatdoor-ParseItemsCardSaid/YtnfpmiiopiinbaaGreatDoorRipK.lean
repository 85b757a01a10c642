/- Lemmas for the proof: no conditions. -/
import Derived.Test.YtnfpmiiopiinbaaGreatDoorRipZz
import Derived.Test.YtnfpmiiopiinbaaGreatDoorRipI
set_option linter.unusedVariables false
set_option linter.unusedSimpArgs false
set_option linter.loopingSimpArgs false
namespace Go.Rip
inductive n6 where
 | item | type | base | term | arg | kind (k:Int)
def di (k:Int):Bool:=decide (9 <= k/\k <= 34)
def uT (k:Int):Bool:=decide (k=6\/k=7)
def rR (k:Int):Bool:=decide (k=6\/k=7\/k=8)
def p7 (k:Int):Bool:=decide (2 <= k/\k <= 4)
def Bg (k:Int):Bool:=decide (9 <= k/\k <= 36)
def n6.is:n6->Int->Bool
 | .item,k=>p7 k
 | .type,k=>rR k
 | .base,k=>uT k
 | .term,k=>di k
 | .arg,k=>Bg k
 | .kind c,k=>decide (k=c)
structure mG where
 c:n6
 least:Nat
 na:Nat
structure jK where
 text:Bool
 n:Bool
 m:Bool
 kids:List mG
def cx (k:Int):Option jK :=
 if k=1 then some ⟨false,false,false,[⟨.item,0,900⟩]⟩
 else if k=2 then some ⟨true,false,false,[⟨.type,1,1⟩]⟩
 else if k=3\/k=4 then some ⟨true,false,false,[⟨.kind 5,0,900⟩,⟨.base,1,1⟩,⟨.term,1,1⟩]⟩
 else if k=5 then some ⟨true,false,false,[⟨.type,1,1⟩]⟩
 else if k=6\/k=7 then some ⟨false,true,false,[]⟩
 else if k=8 then some ⟨false,false,false,[⟨.base,2,900⟩]⟩
 else if k=9 then some ⟨false,false,false,[⟨.term,2,900⟩]⟩
 else if k=10 then some ⟨false,false,false,[⟨.term,3,3⟩]⟩
 else if k=11\/k=15\/k=17\/k=18\/20 <= k/\k <= 24 then some ⟨false,false,false,[⟨.term,2,2⟩]⟩
 else if k=12 then some ⟨true,true,true,[⟨.term,1,1⟩]⟩
 else if k=13 then some ⟨true,false,false,[⟨.term,2,2⟩]⟩
 else if k=14 then some ⟨true,true,false,[⟨.term,1,1⟩]⟩
 else if k=16 then some ⟨true,false,false,[⟨.term,1,1⟩]⟩
 else if k=19 then some ⟨false,false,false,[⟨.term,1,1⟩]⟩
 else if k=25 then some ⟨false,true,false,[⟨.term,1,1⟩]⟩
 else if k=26 then some ⟨false,true,false,[]⟩
 else if 27 <= k/\k <= 30 then some ⟨false,false,false,[]⟩
 else if k=31\/k=32\/k=33\/k=37 then some ⟨true,false,false,[]⟩
 else if k=34 then some ⟨true,false,false,[⟨.arg,1,900⟩]⟩
 else if k=35 then some ⟨false,false,false,[⟨.kind 37,1,900⟩,⟨.term,1,1⟩]⟩
 else if k=36 then some ⟨false,false,false,[⟨.term,1,1⟩,⟨.kind 37,1,1⟩,⟨.term,1,1⟩]⟩
 else none
def eu:List Int->List mG->Bool
 | ks,[]=>ks.isEmpty
 | ks,s::rest =>
   let many:=((ks.take (min (ks.length - (rest.map (·.least)).sum) s.na)).takeWhile s.c.is).length
   if many < s.least then false else eu (ks.drop many) rest
def mD (s:aQ):Bool:=decide (jh s=(0,1,s))
def fQ (n:Int):Bool:=decide (0 <= n/\n <= 1000000)
def jL (x:Nd) (f:jK):Bool:=(f.text == (x.text != [])) && (!f.text || mD x.text) && fQ x.n && fQ x.m && (f.n || x.n == 0) && (f.m || x.m == 0)
inductive Tre where
 | mk (kind:Int) (text:aQ) (n m at_:Int) (kids:List Tre)
namespace Tre
def kind:Tre->Int | mk k _ _ _ _ _=>k
def text:Tre->aQ | mk _ t _ _ _ _=>t
def n:Tre->Int | mk _ _ n _ _ _=>n
def m:Tre->Int | mk _ _ _ m _ _=>m
def at_:Tre->Int | mk _ _ _ _ a _=>a
def kids:Tre->List Tre | mk _ _ _ _ _ ks=>ks
mutual
def flat:Tre->List Nd
 | mk k t n m a ks=>node k t n m a (bA ks)
def bA:List Tre->List Nd
 | []=>[]
 | t::ts=>flat t++bA ts
end
mutual
def ok:Tre->Bool
 | mk k t n m a ks=>(match cx k with
   | some f=>jL ⟨k,t,n,m,a,0⟩ f && eu (ks.map kind) f.kids
   | none=>false) && sv ks
def sv:List Tre->Bool
 | []=>true
 | t::ts=>ok t && sv ts
end
mutual
def deep:Tre->Nat
 | mk _ _ _ _ _ ks=>nB ks
def nB:List Tre->Nat
 | []=>0
 | t::ts=>max (deep t+1) (nB ts)
end
end Tre
abbrev Tx:=Nat × aQ
def bm (s:aQ):Tx:=(match s with | c::_=>if oF c then 3 else 4 | []=>4,s)
def iY (s:aQ):Tx:=(1,s)
def ko:Nat->Nat->aQ
 | 0,_=>[]
 | f+1,n=>if n < 10 then [(48+n).toUInt8] else ko f (n / 10)++[(48+n % 10).toUInt8]
def mx (n:Int):aQ:=ko 20 n.toNat
def ov (n:Int):Tx:=(2,mx n)
def dD (k:Int):Nat :=
 if k=9 then 0 else if 10 <= k/\k <= 16 then 1 else if k=17 then 2 else if k=18 then 3 else if k=19 then 4 else if k=20\/k=21 then 5 else if k=22\/k=23 then 6 else if k=24 then 7 else if k=25 then 8 else 9
def ox (k:Int):aQ :=
 if k=17 then Aw else if k=18 then wv else if k=20 then lS else if k=21 then tH else if k=22 then tF else if k=23 then tG else if k=24 then tE else yw
def gR (k:Int) (least:Nat) (l:List Tx):List Tx:=if least <= dD k then l else bm fy::l++[bm gd]
def eE (w:aQ):List (List Tx)->List Tx
 | []=>[]
 | [l]=>l
 | l::m::ls=>l++bm w::eE w (m::ls)
def dH (k:Int) (t:aQ) (n m:Int) (ks:List (Int × List Tx)):List Tx :=
 let g (i:Nat):List Tx:=(ks.getD i (0,[])).2
 let b (least i:Nat):List Tx:=gR (ks.getD i (0,[])).1 least (g i)
 let all:=ks.map (·.2)
 if k=2 then bm eS::iY t::bm gX::g 0++[bm ff]
 else if k=3\/k=4 then bm (if k=3 then j0 else gz)::iY t::bm fy::eE fG (all.take (ks.length - 2))++bm gd::bm gX::g (ks.length - 2)++bm lS::g (ks.length - 1)++[bm ff]
 else if k=5 then iY t::bm gX::g 0
 else if k=6 then (if n=1 then [bm EH] else if n=2 then [bm B0] else [bm mQ,ov n])
 else if k=7 then [bm nz,ov n]
 else if k=8 then bm fy::eE fG (all.take (ks.length - 1))++bm gd::bm iq::g (ks.length - 1)
 else if k=9 then eE ff (ks.map fun x=>gR x.1 1 x.2)
 else if k=10 then bm uk::b 1 0++bm pS::b 1 1++bm fZ::b 1 2
 else if k=11 then bm lz::b 1 0++bm uj::b 1 1
 else if k=12 then bm rM::iY t::bm gX::ov n::bm bX::ov m::bm lT::b 1 0
 else if k=13 then bm nL::iY t::bm lT::b 1 0++bm fZ::b 1 1
 else if k=14 then bm lU::iY t::bm bX::ov n::bm lT::b 1 0
 else if k=15 then bm kM::b 1 0++bm fZ::b 1 1
 else if k=16 then iY t::bm bX::b 1 0
 else if k=19 then bm wx::b 4 0
 else if k=25 then b 8 0++[bm yw,ov n]
 else if 17 <= k/\k <= 24 then b (if dD k=5 then 6 else dD k) 0++bm (ox k)::b (dD k+1) 1
 else if k=26 then [ov n]
 else if k=27 then [bm du]
 else if k=28 then [bm dC]
 else if k=29 then [bm fA]
 else if k=30 then [bm gY]
 else if k=31 then [bm mg,iY t]
 else if k=32 then [bm oK,iY t]
 else if k=33\/k=37 then [iY t]
 else if k=34 then iY t::bm fy::eE fG all++[bm gd]
 else if k=35 then bm yx::bm fy::eE fG (all.take (ks.length - 1))++bm gd::b 1 (ks.length - 1)
 else if k=36 then bm rL::bm yX::b 1 0++bm ff::bm yZ::g 1++bm wu::b 1 2++[bm tI]
 else []
namespace Tre
mutual
def pr:Tre->List Tx
 | mk k t n m _ ks=>dH k t n m (Ns ks)
def Ns:List Tre->List (Int × List Tx)
 | []=>[]
 | t::ts=>(t.kind,pr t)::Ns ts
end
end Tre
def qy (a b:Tx):Bool:=(a.1 != 4 && b.1 != 4) || (a.2 == gX && b.2 == lS)
def fw:List Tx->aQ
 | []=>[]
 | [a]=>a.2
 | a::b::l=>a.2++(if qy a b then [32] else [])++fw (b::l)
def dW (l:List Tx):aQ × Int:=if 900 < l.length then ([],5) else if 2500 < (fw l).length then ([],5) else (fw l,0)
end Go.Rip
namespace Go.Rip
def ee (l:List Nd) (en:Int):Nat->Nat->List Nat
 | 0,_=>[]
 | f+1,p=>match l[p]? with
   | some x=>if (p:Int) < en/\0 < x.size then p::ee l en f (p+x.size.toNat) else []
   | none=>[]
def jm:List Nd->Nat->List Int->Bool
 | [],_,_=>false
 | x::r,n,es=>if 60 < (es.filter ((n:Int) < ·)).length then true else jm r (n+1) (es.filter ((n:Int) < ·)++[(n:Int)+x.size])
def mL (l:List Nd):Int:=match l with | x::_=>x.size | []=>0
def rZ (l:List Nd):Bool:=jm l 0 [] || decide (24 < (ee l (mL l) l.length 1).length)
namespace Tre
theorem fP {k:Int} {t:aQ} {n m a:Int} {ks:List Tre}:flat (mk k t n m a ks)=⟨k,t,n,m,a,((bA ks).length:Int)+1⟩::bA ks:=by rw [flat]; rfl
@[simp] theorem qC:bA []=[]:=by rw [bA]
@[simp] theorem cW {t:Tre} {ts:List Tre}:bA (t::ts)=flat t++bA ts:=by rw [bA]
theorem mX:∀ (l l':List Tre),bA (l++l')=bA l++bA l'
 | [],l'=>by simp
 | t::l,l'=>by simp [mX l l']
@[simp] theorem aei:sv []=true:=by rw [sv]
@[simp] theorem sw {t:Tre} {ts:List Tre}:sv (t::ts)=(ok t && sv ts):=by rw [sv]
theorem Bv:∀ (l l':List Tre),sv (l++l')=(sv l && sv l')
 | [],l'=>by simp
 | t::l,l'=>by simp [Bv l l',Bool.and_assoc]
@[simp] theorem Uz {k:Int} {t:aQ} {n m a:Int} {ks:List Tre}:deep (mk k t n m a ks)=nB ks:=by rw [deep]
@[simp] theorem oV:nB []=0:=by rw [nB]
@[simp] theorem ry {t:Tre} {ts:List Tre}:nB (t::ts)=max (deep t+1) (nB ts):=by rw [nB]
theorem dB:∀ t:Tre,0 < t.flat.length
 | mk k t n m a ks=>by rw [fP]; simp
theorem oZ:∀ ts:List Tre,ts.length <= (bA ts).length
 | []=>by simp
 | t::ts=>by
   have:=oZ ts
   have:=dB t
   simp; omega
theorem oY:∀ t:Tre,∃ x r,t.flat=x::r/\x.kind=t.kind/\x.size=t.flat.length/\x.text=t.text/\x.n=t.n/\x.m=t.m/\x.at_=t.at_/\r=bA t.kids
 | mk k t n m a ks=>⟨_,_,fP,rfl,by rw [fP]; simp,rfl,rfl,rfl,rfl,rfl⟩
theorem sU:∀ (N:Nat) (ts zJ:List Tre) (r r':List Nd),(bA ts).length <= N->bA ts++r=bA zJ++r'->(bA ts).length=(bA zJ).length->ts=zJ
 | N,[],[],_,_,_,_,_=>rfl
 | N,[],t::ts,_,_,_,_,h=>by have:=dB t; simp only [cW,qC,dh,oQ] at h; omega
 | N,t::ts,[],_,_,_,_,h=>by have:=dB t; simp only [cW,qC,dh,oQ] at h; omega
 | 0,t::ts,_,_,_,hN,_,_=>by have:=dB t; simp only [cW,dh] at hN; omega
 | N+1,mk k t n m a ks::ts,mk k' t' n' m' a' ks'::zJ,r,r',hN,h,hl=>by
   simp only [cW,fP,ib,iM,List.cons.injEq,Nd.mk.injEq,jf,dh] at h hl hN
   obtain ⟨⟨rfl,rfl,rfl,rfl,rfl,hs⟩,h⟩:=h
   have hs:(bA ks).length=(bA ks').length:=by omega
   have e:=sU N ks ks' (bA ts++r) (bA zJ++r') (by omega) h hs
   subst e
   have h2:=List.append_cancel_left h
   have e:=sU N ts zJ r r' (by omega) h2 (by omega)
   rw [e]
theorem QJ {t t':Tre} (h:t.flat=t'.flat):t=t':=by
 have:=sU (bA [t]).length [t] [t'] [] [] (dk _) (by simp [h]) (by simp [h])
 simpa using this
end Tre
def cE:Nat->List Tre->List Nat
 | _,[]=>[]
 | p,t::ts=>p::cE (p+t.flat.length) ts
theorem ma:∀ (p:Nat) (ts:List Tre),(cE p ts).length=ts.length
 | _,[]=>rfl
 | p,t::ts=>by simp [cE,ma]
def kD (l:List Nd) (p:Nat) (ts:List Tre):Prop:=∃ r,l.drop p=Tre.bA ts++r
def et (l:List Nd) (p:Nat) (t:Tre):Prop:=∃ r,l.drop p=t.flat++r
section
variable {l:List Nd} {p:Nat} {t:Tre} {ts:List Tre}
theorem kD.head (h:kD l p (t::ts)):et l p t:=by
 obtain ⟨r,h⟩:=h
 exact ⟨Tre.bA ts++r,by rw [h]; simp⟩
theorem kD.tail (h:kD l p (t::ts)):kD l (p+t.flat.length) ts:=by
 obtain ⟨r,h⟩:=h
 refine ⟨r,?_⟩
 rw [<- List.drop_drop,h]
 simp
theorem kD.app {zJ:List Tre} (h:kD l p (ts++zJ)):kD l p ts/\kD l (p+(Tre.bA ts).length) zJ:=by
 obtain ⟨r,h⟩:=h
 refine ⟨⟨Tre.bA zJ++r,by rw [h,Tre.mX]; simp⟩,⟨r,?_⟩⟩
 rw [<- List.drop_drop,h,Tre.mX]
 simp
theorem et.mV (h:et l p t):∃ x,l[p]?=some x/\x.kind=t.kind/\x.size=t.flat.length/\x.text=t.text/\x.n=t.n/\x.m=t.m/\x.at_=t.at_:=by
 obtain ⟨r,h⟩:=h
 obtain ⟨x,r',h1,h2,h3,h4,h5,h6,h7,h8⟩:=t.oY
 refine ⟨x,?_,h2,h3,h4,h5,h6,h7⟩
 rw [h1] at h
 have:(l.drop p)[0]?=some x:=by rw [h]; rfl
 simpa using this
theorem et.le (h:et l p t):p+t.flat.length <= l.length:=by
 obtain ⟨r,h⟩:=h
 have h':=congrArg List.length h
 have:=t.dB
 simp only [List.length_drop,dh] at h'; omega
theorem kD.le (h:kD l p ts) (hp:p <= l.length):p+(Tre.bA ts).length <= l.length:=by
 obtain ⟨r,h⟩:=h
 have:=congrArg List.length h
 simp at this; omega
theorem et.kids (h:et l p t):kD l (p+1) t.kids:=by
 obtain ⟨r,h⟩:=h
 obtain ⟨x,r',h1,h2,h3,h4,h5,h6,h7,h8⟩:=t.oY
 refine ⟨r,?_⟩
 rw [<- List.drop_drop,h,h1,h8]
 rfl
theorem lE (t:Tre):t.flat.length=(Tre.bA t.kids).length+1:=by
 cases t with
 | mk k t n m a ks=>rw [Tre.fP]; rfl
theorem et.whole (t:Tre):et t.flat 0 t:=⟨[],by simp⟩
theorem DE:∀ (ts:List Tre) (p f:Nat),kD l p ts->ts.length <= f->ee l ((p:Int)+(Tre.bA ts).length) f p=cE p ts
 | [],p,0,h,hf=>rfl
 | [],p,f+1,h,hf=>by
   simp only [ee,cE,Tre.qC,oQ]
   split
   . rw [if_neg (by omega)]
   . rfl
 | t::ts,p,0,h,hf=>by simp at hf
 | t::ts,p,f+1,h,hf=>by
   obtain ⟨x,hx,_,hs,_⟩:=h.head.mV
   have hp:=t.dB
   simp only [ee,cE,hx]
   rw [if_pos (by simp; omega)]
   have:=DE ts (p+t.flat.length) f h.tail (by simp at hf; omega)
   have e:p+x.size.toNat=p+t.flat.length:=by omega
   rw [e,<- this]
   congr 2
   simp; omega
theorem sk (h:et l p t):ee l ((p:Int)+t.flat.length) l.length (p+1)=cE (p+1) t.kids:=by
 have:=DE t.kids (p+1) l.length h.kids (by
  have:=h.le
  have:=lE t
  have:=Tre.oZ t.kids
  omega)
 rw [<- this]
 have:=lE t
 congr 1
 omega
theorem u6:∀ (N:Nat) (ts:List Tre) (p:Nat),(Tre.bA ts).length <= N->kD l p ts->∀ i,p <= i->i < p+(Tre.bA ts).length->∃ t,et l i t/\(Tre.sv ts=true->t.ok=true)
 | N,[],p,hN,h,i,h1,h2=>by simp at h2; omega
 | 0,t::ts,p,hN,h,i,h1,h2=>by have:=t.dB; simp only [Tre.cW,dh] at hN; omega
 | N+1,.mk k tx n m a ks::ts,p,hN,h,i,h1,h2=>by
   simp only [Tre.cW,Tre.fP,dh,jf] at hN h2
   by_cases he:i=p
   . subst he
     refine ⟨_,h.head,fun ho=>?_⟩
     rw [Tre.sw,bL] at ho
     exact ho.1
   . by_cases hi:i < p+((Tre.bA ks).length+1)
     . obtain ⟨t,ht,ho⟩:=u6 N ks (p+1) (by omega) h.head.kids i (by omega) (by omega)
       refine ⟨t,ht,fun hk=>ho ?_⟩
       rw [Tre.sw,Tre.ok] at hk
       simp only [bL] at hk
       exact hk.1.2
     . obtain ⟨t,ht,ho⟩:=u6 N ts (p+(Tre.flat (.mk k tx n m a ks)).length) (by omega) h.tail i (by rw [Tre.fP]; simp; omega) (by rw [Tre.fP]; simp; omega)
       refine ⟨t,ht,fun hk=>ho ?_⟩
       rw [Tre.sw,bL] at hk
       exact hk.2
end
theorem wH (l:List Nd) (n:Nat) (es:List Int):jm l n (es.filter ((n:Int) < ·))=jm l n es:=by
 cases l with
 | nil=>rfl
 | cons x r=>simp only [jm,List.filter_filter,Bool.and_self]
theorem xz:∀ (N:Nat) (ts:List Tre) (n:Nat) (es:List Int) (r:List Nd),(Tre.bA ts).length <= N->(∀ e ∈ es,(n:Int)+(Tre.bA ts).length <= e) ->
 jm (Tre.bA ts++r) n es=((decide (ts ≠ []) && decide (60 < es.length+(Tre.nB ts - 1))) || jm r (n+(Tre.bA ts).length) es)
 | N,[],n,es,r,hN,xF=>by simp
 | 0,t::ts,n,es,r,hN,xF=>by have:=t.dB; simp only [Tre.cW,dh] at hN; omega
 | N+1,.mk k tx a b c ks::ts,n,es,r,hN,xF=>by
   simp only [Tre.cW,Tre.fP,dh,jf] at hN xF
   have XX:es.filter ((n:Int) < ·)=es:=by
    rw [List.filter_eq_self]
    intro e he
    have:=xF e he
    simp only [dI]
    omega
   simp only [Tre.cW,Tre.fP,ib,iM,jm,XX,Tre.ry,Tre.Uz]
   by_cases xG:60 < es.length
   . rw [if_pos xG]
     simp; omega
   . rw [if_neg xG]
     have h1:=xz N ks (n+1) (es++[(n:Int)+(((Tre.bA ks).length:Int)+1)]) (Tre.bA ts++r) (by omega) (fun e he=>by
      simp only [fB,jg] at he
      rcases he with he | rfl
      . have:=xF e he; omega
      . omega)
     rw [h1]
     have h2:jm (Tre.bA ts++r) (n+1+(Tre.bA ks).length) (es++[(n:Int)+(((Tre.bA ks).length:Int)+1)])=jm (Tre.bA ts++r) (n+1+(Tre.bA ks).length) es:=by
      rw [<- wH,<- wH (es:=es)]
      congr 1
      rw [List.filter_append]
      have:List.filter (fun x=>decide (((n+1+(Tre.bA ks).length:Nat):Int) < x)) [(n:Int)+(((Tre.bA ks).length:Int)+1)]=[]:=by
       rw [List.filter_cons_of_neg,List.filter_nil]
       simp only [dI]; omega
      rw [this,ia]
     rw [h2]
     have h3:=xz N ts (n+1+(Tre.bA ks).length) es r (by omega) (fun e he=>by have:=xF e he; omega)
     rw [h3]
     have e1:n+1+(Tre.bA ks).length+(Tre.bA ts).length=n+((Tre.flat (.mk k tx a b c ks)).length+(Tre.bA ts).length):=by rw [Tre.fP]; simp; omega
     have e2:n+((Tre.bA ks).length+1+(Tre.bA ts).length)=n+1+(Tre.bA ks).length+(Tre.bA ts).length:=by omega
     simp only [dh,jf,oQ,e2,Tre.fP]
     rw [<- Bool.or_assoc]
     congr 1
     rw [nY]
     have hd:ks=[]->Tre.nB ks=0:=fun e=>by rw [e,Tre.oV]
     have wL:ts=[]->Tre.nB ts=0:=fun e=>by rw [e,Tre.oV]
     have hdp:ks ≠ []->0 < Tre.nB ks:=fun e=>by
      cases ks with
      | nil=>exact absurd rfl e
      | cons t ks=>rw [Tre.ry]; omega
     have XQ:ts ≠ []->0 < Tre.nB ts:=fun e=>by
      cases ts with
      | nil=>exact absurd rfl e
      | cons t ks=>rw [Tre.ry]; omega
     simp only [iL,bL,dI,ne_eq,reduceCtorEq,not_false_eq_true,true_and]
     by_cases hk:ks=[]
     . have:=hd hk
       by_cases ht:ts=[]
       . have:=wL ht
         rw [ht] at this
         simp only [hk,ht,not_true,false_and,or_false,false_iff,Tre.oV]; omega
       . have:=XQ ht
         simp only [hk,ht,not_true,false_and,false_or,not_false_eq_true,true_and,Tre.oV]; omega
     . have:=hdp hk
       by_cases ht:ts=[]
       . simp only [hk,ht,not_true,false_and,or_false,not_false_eq_true,true_and,Tre.oV]; omega
       . have:=XQ ht
         simp only [hk,ht,not_false_eq_true,true_and]; omega
     congr 1; omega
theorem HE (t:Tre):jm t.flat 0 []=decide (60 < t.deep):=by
 have:=xz t.flat.length [t] 0 [] [] (by simp) (by simp)
 simp only [Tre.cW,Tre.qC,ia,Tre.ry,Tre.oV,ne_eq,reduceCtorEq,not_false_eq_true,da,Bool.true_and,oQ] at this
 rw [this]
 simp only [jm,Bool.or_false]
 rw [nY]; simp only [dI]; omega
theorem HF (t:Tre):rZ t.flat=(decide (60 < t.deep) || decide (24 < t.kids.length)):=by
 unfold rZ
 rw [HE]
 have h:=sk (et.whole t)
 have hs:mL t.flat=((0:Nat):Int)+t.flat.length:=by
  obtain ⟨x,r,h1,_,h3,_⟩:=t.oY
  rw [h1] at h3 ⊢
  simp only [mL]; omega
 rw [hs,h,ma]
open Classical in
noncomputable def As (l:List Nd):Option Tre:=if h:∃ t:Tre,l=t.flat then some h.choose else none
theorem D4 (t:Tre):As t.flat=some t:=by
 unfold As
 have h:∃ t':Tre,t.flat=t'.flat:=⟨t,rfl⟩
 rw [dif_pos h]
 have:=h.choose_spec
 rw [<- Tre.QJ this]
theorem PW {l:List Nd} {t:Tre} (h:As l=some t):l=t.flat:=by
 unfold As at h
 split at h
 . rename_i h'
   have:=h'.choose_spec
   cases h
   exact this
 . cases h
def Cc (t:Tre):Int:=if t.kind ≠ 1\/t.ok=false then 4 else if 60 < t.deep\/24 < t.kids.length then 5 else 0
noncomputable def gg (l:List Nd):Int:=if 900 < l.length then 5 else match As l with | none=>4 | some t=>Cc t
theorem C5 (t:Tre) (h:¬ 900 < t.flat.length):gg t.flat=Cc t:=by unfold gg; rw [if_neg h,D4]
end Go.Rip
namespace Go.Rip
def qw (l:List Nd) (e:Nat):Nat->Nat->Nat
 | 0,p=>p
 | f+1,p=>if p < e then qw l e f (p+((l[p]?.map Nd.size).getD 0).toNat) else p
def eW (l:List Nd) (i:Nat):Nat:=((l[i]?.map Nd.size).getD 0).toNat
def AA (l:List Nd):Prop:=l ≠ []/\mL l=l.length/\∀ (i:Nat) (x:Nd),l[i]?=some x->1 <= x.size/\x.size <= (l.length:Int) - i
def Ei (l:List Nd):Prop:=AA l/\∀ (i:Nat) (x:Nd),l[i]?=some x->qw l (i+x.size.toNat) l.length (i+1)=i+x.size.toNat
theorem wz {l:List Nd} {e p:Nat} (h:¬ p < e):∀ f,qw l e f p=p
 | 0=>rfl
 | f+1=>by rw [qw,if_neg h]
theorem wy {l:List Nd} {e p f:Nat} {x:Nd} (hx:l[p]?=some x) (h:p < e):qw l e (f+1) p=qw l e f (p+x.size.toNat):=by
 rw [qw,if_pos h,hx]; rfl
theorem B2 {l:List Nd}:∀ (ts:List Tre) (p f:Nat),kD l p ts->ts.length <= f->qw l (p+(Tre.bA ts).length) f p=p+(Tre.bA ts).length
 | [],p,f,h,hf=>by rw [Tre.qC,wz (by simp)]; rfl
 | t::ts,p,0,h,hf=>by simp at hf
 | t::ts,p,f+1,h,hf=>by
   obtain ⟨x,hx,_,hs,_⟩:=h.head.mV
   have hp:=t.dB
   rw [wy hx (by simp; omega)]
   have:=B2 ts (p+t.flat.length) f h.tail (by simp at hf; omega)
   have e:p+x.size.toNat=p+t.flat.length:=by omega
   have e2:p+(Tre.bA (t::ts)).length=p+t.flat.length+(Tre.bA ts).length:=by simp; omega
   rw [e,e2,this]
theorem KT (t:Tre):Ei t.flat:=by
 have sub:∀ i x,t.flat[i]?=some x->∃ t',et t.flat i t':=fun i x hx=>by
  have hi:=(c8.1 hx).1
  obtain ⟨t',h,_⟩:=u6 (l:=t.flat) t.flat.length [t] 0 (by simp) ⟨[],by simp⟩ i (by omega) (by simpa using hi)
  exact ⟨t',h⟩
 refine ⟨⟨?_,?_,fun i x hx=>?_⟩,fun i x hx=>?_⟩
 . have:=t.dB
   intro e; rw [e] at this; simp at this
 . obtain ⟨x,r,h1,_,h3,_⟩:=t.oY
   rw [h1] at h3 ⊢; exact h3
 . obtain ⟨t',h⟩:=sub i x hx
   obtain ⟨y,hy,_,hs,_⟩:=h.mV
   rw [hx] at hy; cases hy
   have:=h.le
   have:=t'.dB
   omega
 . obtain ⟨t',h⟩:=sub i x hx
   obtain ⟨y,hy,_,hs,_⟩:=h.mV
   rw [hx] at hy; cases hy
   have hl:=lE t'
   have:=B2 t'.kids (i+1) t.flat.length h.kids (by
    have:=h.le
    have:=Tre.oZ t'.kids
    omega)
   have e:i+x.size.toNat=i+1+(Tre.bA t'.kids).length:=by omega
   rw [e]; exact this
theorem yh {l:List Nd} (hs:Ei l):∀ (N i e f:Nat),e - i <= N->i <= e->e <= l.length->e - i <= f->qw l e f i=e->∃ ts,l.drop i=Tre.bA ts++l.drop e/\(Tre.bA ts).length=e - i
 | N,i,e,f,hN,hie,he,hf,hw=>by
   by_cases h:i=e
   . subst h; exact ⟨[],by simp,by simp⟩
   . cases N with
     | zero=>omega
     | succ N =>
     cases f with
     | zero=>omega
     | succ f =>
     obtain ⟨x,hx⟩:∃ x,l[i]?=some x:=⟨l[i]'(by omega),by simp⟩
     have Td:=hs.1.2.2 i x hx
     rw [wy hx (by omega)] at hw
     have hse:i+x.size.toNat <= e:=by
      rcases je e (i+x.size.toNat) with h1 | h1
      . rw [wz (by omega)] at hw; omega
      . exact h1
     obtain ⟨ks,k1,k2⟩:=yh hs N (i+1) (i+x.size.toNat) l.length (by omega) (by omega) (by omega) (by omega) (hs.2 i x hx)
     obtain ⟨ts,t1,t2⟩:=yh hs N (i+x.size.toNat) e f (by omega) hse he (by omega) hw
     have S9:(Tre.mk x.kind x.text x.n x.m x.at_ ks).flat=x::Tre.bA ks:=by
      rw [Tre.fP]
      have:((Tre.bA ks).length:Int)+1=x.size:=by omega
      rw [this]
     refine ⟨.mk x.kind x.text x.n x.m x.at_ ks::ts,?_,?_⟩
     . have hd:l.drop i=x::l.drop (i+1):=by
        rw [gl (by omega)]
        have:=(c8.1 hx).2
        rw [this]
       rw [hd,k1,t1,Tre.cW,S9]
       simp
     . rw [Tre.cW,S9]; simp; omega
theorem DY (l:List Nd):Ei l ↔ ∃ t:Tre,l=t.flat:=by
 refine ⟨fun h=>?_,fun ⟨t,ht⟩=>ht ▸ KT t⟩
 cases l with
 | nil=>exact absurd rfl h.1.1
 | cons x r =>
   have dQ:x.size=(r.length:Int)+1:=by have:=h.1.2.1; simpa [mL] using this
   have hw:=h.2 0 x rfl
   obtain ⟨ks,k1,k2⟩:=yh h r.length 1 (r.length+1) (r.length+1) (by omega) (by omega) (by simp) (by omega) (by
    have e:0+x.size.toNat=r.length+1:=by omega
    rw [e] at hw; exact hw)
   refine ⟨.mk x.kind x.text x.n x.m x.at_ ks,?_⟩
   rw [Tre.fP]
   have hr:r=Tre.bA ks:=by
    have:(x::r).drop 1=r:=rfl
    rw [this,List.drop_of_length_le (by simp),ia] at k1
    exact k1
   rw [<- hr,<- dQ]
theorem Au {p:Int->Bool}:∀ {l:List Int},(∀ x ∈ l,p x=true)->l.takeWhile p=l
 | [],_=>rfl
 | a::l,h=>by rw [pK,if_pos (h a (by simp)),Au fun x hx=>h x (by simp [hx])]
theorem G7 {p:Int->Bool}:∀ {l:List Int},l.takeWhile p=l->∀ x ∈ l,p x=true
 | [],_=>by simp
 | a::l,h=>by
   rw [pK] at h
   split at h
   . rename_i ha
     intro x hx
     rcases cD.1 hx with rfl | hx
     . exact ha
     . exact G7 (List.cons.inj h).2 x hx
   . cases h
theorem yH (c:n6) (lo hi:Nat) (ks:List Int):eu ks [⟨c,lo,hi⟩]=(decide (lo <= ks.length/\ks.length <= hi) && ks.all c.is):=by
 rw [eu]
 simp only [lq,List.sum_nil,Nat.sub_zero,eu]
 have hle:((ks.take (min ks.length hi)).takeWhile c.is).length <= min ks.length hi:=by
  have:=(uc c.is (l:=ks.take (min ks.length hi))).length_le
  rw [List.length_take] at this; omega
 rw [nY]
 constructor
 . intro h
   split at h
   . cases h
   . rename_i h1
     have h2:ks.length <= ((ks.take (min ks.length hi)).takeWhile c.is).length:=by
      have:(ks.drop ((ks.take (min ks.length hi)).takeWhile c.is).length).length=0:=by
       rw [List.isEmpty_iff.1 h]; rfl
      rw [List.length_drop] at this; omega
     have zg:=Nat.le_trans h2 hle
     have h3:ks.take (min ks.length hi)=ks:=pL (by omega)
     rw [h3] at h1 h2
     have h4:ks.takeWhile c.is=ks:=(uc c.is).eq_of_length_le h2
     have h5:=G7 h4
     rw [h4] at h1
     simp only [bL,dI,eC]
     exact ⟨⟨by omega,by omega⟩,h5⟩
 . intro h
   simp only [bL,dI,eC] at h
   obtain ⟨⟨h1,h2⟩,h3⟩:=h
   have e1:ks.take (min ks.length hi)=ks:=pL (by omega)
   have e2:ks.takeWhile c.is=ks:=Au h3
   rw [e1,e2,if_neg (by omega)]
   simp
theorem lW:∀ (cs:List n6) (ks:List Int),eu ks (cs.map fun c=>⟨c,1,1⟩)=true->ks.length=cs.length
 | [],ks,h=>by simp only [lq,eu,List.isEmpty_iff] at h; simp [h]
 | c::cs,ks,h=>by
   rw [dV,eu] at h
   simp only at h
   split at h
   . cases h
   . rename_i h1
     have h7:=lW cs _ h
     have hle:∀ n,((ks.take (min n 1)).takeWhile c.is).length <= 1/\((ks.take (min n 1)).takeWhile c.is).length <= ks.length:=fun n=>by
      have:=(uc c.is (l:=ks.take (min n 1))).length_le
      rw [List.length_take] at this; omega
     have h8:=hle (ks.length - ((cs.map fun c=>(⟨c,1,1⟩:mG)).map (·.least)).sum)
     rw [List.length_drop] at h7
     have key:∀ q a b:Nat,¬ q < 1->a - q=b->q <= 1/\q <= a->a=b+1:=by omega
     rw [jf]
     exact key _ _ _ h1 h7 h8
theorem G0 (cs:List n6):((cs.map fun c=>(⟨c,1,1⟩:mG)).map (·.least)).sum=cs.length:=by
 induction cs with
 | nil=>rfl
 | cons c cs ih=>simp only [dV,List.sum_cons,jf,ih]; omega
theorem uB (c:n6) (cs:List n6) (k:Int) (ks:List Int) (h:ks.length=cs.length):eu (k::ks) (⟨c,1,1⟩::cs.map fun c=>⟨c,1,1⟩)=(c.is k && eu ks (cs.map fun c=>⟨c,1,1⟩)):=by
 rw [eu]
 simp only [G0]
 have:min ((k::ks).length - cs.length) 1=1:=by simp; omega
 rw [this]
 simp only [List.take_succ_cons,List.take_zero,pK,List.takeWhile_nil]
 cases c.is k <;> simp
theorem zd (s:mG) (cs:List n6) (ks:List Int) (hm:ks.length <= s.na+cs.length):eu ks (s::cs.map fun c=>⟨c,1,1⟩)=(decide (s.least+cs.length <= ks.length) && ((ks.take (ks.length - cs.length)).all s.c.is && eu (ks.drop (ks.length - cs.length)) (cs.map fun c=>⟨c,1,1⟩))):=by
 rw [eu]
 simp only [G0]
 have e0:min (ks.length - cs.length) s.na=ks.length - cs.length:=by omega
 rw [e0]
 have hle:((ks.take (ks.length - cs.length)).takeWhile s.c.is).length <= ks.length - cs.length:=by
  have:=(uc s.c.is (l:=ks.take (ks.length - cs.length))).length_le
  rw [List.length_take] at this; omega
 by_cases bO:∀ x ∈ ks.take (ks.length - cs.length),s.c.is x=true
 . have e2:(ks.take (ks.length - cs.length)).takeWhile s.c.is=ks.take (ks.length - cs.length):=Au bO
   have e3:(ks.take (ks.length - cs.length)).all s.c.is=true:=eC.2 bO
   rw [e2,e3,List.length_take,Nat.min_eq_left (by omega)]
   by_cases h:s.least+cs.length <= ks.length
   . rw [if_neg (by omega)]; simp [h]
   . rw [decide_eq_false h,Bool.false_and]
     by_cases h2:ks.length - cs.length < s.least
     . rw [if_pos h2]
     . rw [if_neg h2]
       have:s.least=0:=by omega
       cases hf:eu (ks.drop (ks.length - cs.length)) (cs.map fun c=>⟨c,1,1⟩) with
       | false=>rfl
       | true =>
         have:=lW cs _ hf
         rw [List.length_drop] at this
         omega
 . have e3:(ks.take (ks.length - cs.length)).all s.c.is=false:=by
    cases h:(ks.take (ks.length - cs.length)).all s.c.is with
    | false=>rfl
    | true=>exact absurd (eC.1 h) bO
   rw [e3,Bool.false_and,Bool.and_false]
   have aO:((ks.take (ks.length - cs.length)).takeWhile s.c.is).length < ks.length - cs.length:=by
    refine Nat.lt_of_le_of_ne hle fun e=>bO ?_
    have:(ks.take (ks.length - cs.length)).takeWhile s.c.is=ks.take (ks.length - cs.length):=(uc _).eq_of_length_le (by rw [List.length_take]; omega)
    exact G7 this
   split
   . rfl
   . cases hf:eu (ks.drop ((ks.take (ks.length - cs.length)).takeWhile s.c.is).length) (cs.map fun c=>⟨c,1,1⟩) with
     | false=>rfl
     | true =>
       have:=lW cs _ hf
       rw [List.length_drop] at this
       omega
end Go.Rip
namespace Go.Rip
mutual
def xn:Nat->Tre->List Nat
 | d,.mk _ _ _ _ _ ks=>d::pn (d+1) ks
def pn:Nat->List Tre->List Nat
 | _,[]=>[]
 | d,t::ts=>xn d t++pn d ts
end
@[simp] theorem acu {d:Nat}:pn d []=[]:=by rw [pn]
@[simp] theorem Jy {d:Nat} {t:Tre} {ts:List Tre}:pn d (t::ts)=xn d t++pn d ts:=by rw [pn]
theorem Ce {d:Nat} {k:Int} {t:aQ} {n m a:Int} {ks:List Tre}:xn d (.mk k t n m a ks)=d::pn (d+1) ks:=by rw [xn]
theorem rW:∀ (N:Nat) (ts:List Tre) (d:Nat),(Tre.bA ts).length <= N->(pn d ts).length=(Tre.bA ts).length
 | _,[],_,_=>by simp
 | 0,t::ts,_,h=>by have:=t.dB; simp only [Tre.cW,dh] at h; omega
 | N+1,.mk k t n m a ks::ts,d,h=>by
   simp only [Tre.cW,Tre.fP,dh,jf] at h
   have h1:=rW N ks (d+1) (by omega)
   have h2:=rW N ts d (by omega)
   simp only [Jy,Ce,Tre.cW,Tre.fP,dh,jf,h1,h2]
theorem Hw (d:Nat) (t:Tre):(xn d t).length=t.flat.length:=by
 have:=rW _ [t] d (dk _)
 simpa using this
def pZ (D:List Nat) (p d:Nat) (ts:List Tre):Prop:=∃ r,D.drop p=pn d ts++r
section
variable {l:List Nd} {D:List Nat} {p d:Nat} {t:Tre} {ts:List Tre}
theorem pZ.mV (h:pZ D p d (t::ts)):D[p]?=some d:=by
 obtain ⟨r,h⟩:=h
 have:(D.drop p)[0]?=some d:=by
  rw [h]
  cases t
  simp [Ce]
 simpa using this
theorem pZ.tail (h:pZ D p d (t::ts)):pZ D (p+t.flat.length) d ts:=by
 obtain ⟨r,h⟩:=h
 refine ⟨r,?_⟩
 rw [<- List.drop_drop,h,<- Hw d t]
 simp
theorem pZ.kids (h:pZ D p d (t::ts)):pZ D (p+1) (d+1) t.kids:=by
 obtain ⟨r,h⟩:=h
 cases t with
 | mk k tx n m a ks =>
 refine ⟨pn d ts++r,?_⟩
 rw [<- List.drop_drop,h]
 simp [Ce,Tre.kids]
theorem pZ.cE:∀ {ts:List Tre} {p:Nat},pZ D p d ts->∀ i ∈ cE p ts,D[i]?=some d
 | [],p,h,i,hi=>by simp [Rip.cE] at hi
 | t::ts,p,h,i,hi=>by
   simp only [Rip.cE,cD] at hi
   rcases hi with rfl | hi
   . exact h.mV
   . exact h.tail.cE i hi
theorem x8:∀ (N:Nat) (ts:List Tre) (p d:Nat),(Tre.bA ts).length <= N->kD l p ts->pZ D p d ts->∀ i,p <= i->i < p+(Tre.bA ts).length ->
 (∃ s e,et l i s/\D[i]?=some e/\pZ D (i+1) (e+1) s.kids/\e+p <= d+i)/\(i ∈ cE p ts\/∃ i' s',p <= i'/\i' < i/\et l i' s'/\i ∈ cE (i'+1) s'.kids)
 | N,[],p,d,hN,h,hd,i,h1,h2=>by simp at h2; omega
 | 0,t::ts,p,d,hN,h,hd,i,h1,h2=>by have:=t.dB; simp only [Tre.cW,dh] at hN; omega
 | N+1,t::ts,p,d,hN,h,hd,i,h1,h2=>by
   have Dg:=lE t
   simp only [Tre.cW,dh] at hN h2
   by_cases he:i=p
   . subst he
     exact ⟨⟨t,d,h.head,hd.mV,hd.kids,dk _⟩,.inl (by simp [cE])⟩
   . by_cases hi:i < p+t.flat.length
     . obtain ⟨⟨s,e,a1,a2,a3,a4⟩,b⟩:=x8 N t.kids (p+1) (d+1) (by omega) h.head.kids hd.kids i (by omega) (by omega)
       refine ⟨⟨s,e,a1,a2,a3,by omega⟩,.inr ?_⟩
       rcases b with b | ⟨i',s',b1,b2,b3⟩
       . exact ⟨p,t,dk _,by omega,h.head,b⟩
       . exact ⟨i',s',by omega,b2,b3⟩
     . have:=t.dB
       obtain ⟨⟨s,e,a1,a2,a3,a4⟩,b⟩:=x8 N ts (p+t.flat.length) d (by omega) h.tail hd.tail i (by omega) (by omega)
       refine ⟨⟨s,e,a1,a2,a3,by omega⟩,?_⟩
       rcases b with b | ⟨i',s',b1,b2,b3⟩
       . exact .inl (by simp [cE,b])
       . exact .inr ⟨i',s',by omega,b2,b3⟩
end
theorem place (t:Tre) {i:Nat} (hi:i < t.flat.length):(∃ s e,et t.flat i s/\(xn 0 t)[i]?=some e/\pZ (xn 0 t) (i+1) (e+1) s.kids/\e <= i)/\(i=0\/∃ i' s',i' < i/\et t.flat i' s'/\i ∈ cE (i'+1) s'.kids):=by
 obtain ⟨⟨s,e,a1,a2,a3,a4⟩,b⟩:=x8 (l:=t.flat) (D:=xn 0 t) t.flat.length [t] 0 0 (by simp) ⟨[],by simp⟩ ⟨[],by simp⟩ i (by omega) (by simpa using hi)
 refine ⟨⟨s,e,a1,a2,a3,by omega⟩,?_⟩
 rcases b with b | ⟨i',s',b1,b2,b3⟩
 . simp only [cE,cD,List.not_mem_nil,or_false] at b
   exact .inl b
 . exact .inr ⟨i',s',b2,b3⟩
theorem et.inj {l:List Nd} {i:Nat} {s s':Tre} (h:et l i s) (k:et l i s'):s=s':=by
 obtain ⟨r,h1⟩:=h
 obtain ⟨r',h2⟩:=k
 obtain ⟨x,hx,_,hs,_⟩:=et.mV ⟨r,h1⟩
 obtain ⟨x',km,_,dY,_⟩:=et.mV ⟨r',h2⟩
 rw [hx] at km; cases km
 have:=Tre.sU s.flat.length [s] [s'] r r' (by simp) (by simpa using h1.symm.trans h2) (by simp; omega)
 simpa using this
end Go.Rip
