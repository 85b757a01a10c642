/- Lemmas for the proof: no conditions. -/
import Derived.Test.YtnfpmiiopiinbaaGreatDoorRipZz
import Derived.Test.YtnfpmiiopiinbaaGreatDoorRipI
set_option linter.unusedVariables false
set_option linter.unusedSimpArgs false
set_option linter.loopingSimpArgs false
namespace Go.Rip
inductive mZ where
 | item | type | base | term | arg | kind (k:Int)
def cD (k:Int):Bool:=decide (9 <= k/\k <= 34)
def jb (k:Int):Bool:=decide (k=6\/k=7)
def ey (k:Int):Bool:=decide (k=6\/k=7\/k=8)
def ki (k:Int):Bool:=decide (2 <= k/\k <= 4)
def ln (k:Int):Bool:=decide (9 <= k/\k <= 36)
def mZ.is:mZ->Int->Bool
 | .item,k=>ki k
 | .type,k=>ey k
 | .base,k=>jb k
 | .term,k=>cD k
 | .arg,k=>ln k
 | .kind c,k=>decide (k=c)
structure ng where
 c:mZ
 least:Nat
 nL:Nat
structure fQ where
 text:Bool
 n:Bool
 m:Bool
 kids:List ng
def bw (k:Int):Option fQ :=
 if k=1 then some ⟨false,false,false,[⟨.item,0,900⟩]⟩
 else if k=2 then some ⟨true,false,false,[⟨.type,1,1⟩]⟩
 else if k=3\/k=4 then some ⟨true,false,false,[⟨.kind 5,0,900⟩,⟨.base,1,1⟩,⟨.term,1,1⟩]⟩
 else if k=5 then some ⟨true,false,false,[⟨.type,1,1⟩]⟩
 else if k=6\/k=7 then some ⟨false,true,false,[]⟩
 else if k=8 then some ⟨false,false,false,[⟨.base,2,900⟩]⟩
 else if k=9 then some ⟨false,false,false,[⟨.term,2,900⟩]⟩
 else if k=10 then some ⟨false,false,false,[⟨.term,3,3⟩]⟩
 else if k=11\/k=15\/k=17\/k=18\/20 <= k/\k <= 24 then some ⟨false,false,false,[⟨.term,2,2⟩]⟩
 else if k=12 then some ⟨true,true,true,[⟨.term,1,1⟩]⟩
 else if k=13 then some ⟨true,false,false,[⟨.term,2,2⟩]⟩
 else if k=14 then some ⟨true,true,false,[⟨.term,1,1⟩]⟩
 else if k=16 then some ⟨true,false,false,[⟨.term,1,1⟩]⟩
 else if k=19 then some ⟨false,false,false,[⟨.term,1,1⟩]⟩
 else if k=25 then some ⟨false,true,false,[⟨.term,1,1⟩]⟩
 else if k=26 then some ⟨false,true,false,[]⟩
 else if 27 <= k/\k <= 30 then some ⟨false,false,false,[]⟩
 else if k=31\/k=32\/k=33\/k=37 then some ⟨true,false,false,[]⟩
 else if k=34 then some ⟨true,false,false,[⟨.arg,1,900⟩]⟩
 else if k=35 then some ⟨false,false,false,[⟨.kind 37,1,900⟩,⟨.term,1,1⟩]⟩
 else if k=36 then some ⟨false,false,false,[⟨.term,1,1⟩,⟨.kind 37,1,1⟩,⟨.term,1,1⟩]⟩
 else none
def c7:List Int->List ng->Bool
 | ks,[]=>ks.isEmpty
 | ks,s::rest =>
   let many:=((ks.take (min (ks.length - (rest.map (·.least)).sum) s.nL)).takeWhile s.c.is).length
   if many < s.least then false else c7 (ks.drop many) rest
def fA (s:aY):Bool:=decide (e8 s=(0,1,s))
def eg (n:Int):Bool:=decide (0 <= n/\n <= 1000000)
def kr (x:Nd) (f:fQ):Bool:=(f.text == (x.text != [])) && (!f.text || fA x.text) && eg x.n && eg x.m && (f.n || x.n == 0) && (f.m || x.m == 0)
inductive Tre where
 | mk (kind:Int) (text:aY) (n m at_:Int) (kids:List Tre)
namespace Tre
def kind:Tre->Int | mk k _ _ _ _ _=>k
def text:Tre->aY | mk _ t _ _ _ _=>t
def n:Tre->Int | mk _ _ n _ _ _=>n
def m:Tre->Int | mk _ _ _ m _ _=>m
def at_:Tre->Int | mk _ _ _ _ a _=>a
def kids:Tre->List Tre | mk _ _ _ _ _ ks=>ks
mutual
def flat:Tre->List Nd
 | mk k t n m a ks=>node k t n m a (bQ ks)
def bQ:List Tre->List Nd
 | []=>[]
 | t::ts=>flat t++bQ ts
end
mutual
def ok:Tre->Bool
 | mk k t n m a ks=>(match bw k with
   | some f=>kr ⟨k,t,n,m,a,0⟩ f && c7 (ks.map kind) f.kids
   | none=>false) && yo ks
def yo:List Tre->Bool
 | []=>true
 | t::ts=>ok t && yo ts
end
mutual
def deep:Tre->Nat
 | mk _ _ _ _ _ ks=>lW ks
def lW:List Tre->Nat
 | []=>0
 | t::ts=>max (deep t+1) (lW ts)
end
end Tre
abbrev Tx:=Nat × aY
def aP (s:aY):Tx:=(match s with | c::_=>if jx c then 3 else 4 | []=>4,s)
def dM (s:aY):Tx:=(1,s)
def jg:Nat->Nat->aY
 | 0,_=>[]
 | f+1,n=>if n < 10 then [(48+n).toUInt8] else jg f (n / 10)++[(48+n % 10).toUInt8]
def j6 (n:Int):aY:=jg 20 n.toNat
def iC (n:Int):Tx:=(2,j6 n)
def dk (k:Int):Nat :=
 if k=9 then 0 else if 10 <= k/\k <= 16 then 1 else if k=17 then 2 else if k=18 then 3 else if k=19 then 4 else if k=20\/k=21 then 5 else if k=22\/k=23 then 6 else if k=24 then 7 else if k=25 then 8 else 9
def oS (k:Int):aY :=
 if k=17 then B3 else if k=18 then xX else if k=20 then iJ else if k=21 then rF else if k=22 then rD else if k=23 then qA else if k=24 then sY else zZ
def cY (k:Int) (least:Nat) (l:List Tx):List Tx:=if least <= dk k then l else aP ek::l++[aP eV]
def dr (w:aY):List (List Tx)->List Tx
 | []=>[]
 | [l]=>l
 | l::m::ls=>l++aP w::dr w (m::ls)
def ck (k:Int) (t:aY) (n m:Int) (ks:List (Int × List Tx)):List Tx :=
 let g (i:Nat):List Tx:=(ks.getD i (0,[])).2
 let b (least i:Nat):List Tx:=cY (ks.getD i (0,[])).1 least (g i)
 let all:=ks.map (·.2)
 if k=2 then aP fC::dM t::aP eD::g 0++[aP dO]
 else if k=3\/k=4 then aP (if k=3 then j9 else gO)::dM t::aP ek::dr dW (all.take (ks.length - 2))++aP eV::aP eD::g (ks.length - 2)++aP iJ::g (ks.length - 1)++[aP dO]
 else if k=5 then dM t::aP eD::g 0
 else if k=6 then (if n=1 then [aP xY] else if n=2 then [aP tZ] else [aP kU,iC n])
 else if k=7 then [aP kM,iC n]
 else if k=8 then aP ek::dr dW (all.take (ks.length - 1))++aP eV::aP gd::g (ks.length - 1)
 else if k=9 then dr dO (ks.map fun x=>cY x.1 1 x.2)
 else if k=10 then aP x6::b 1 0++aP sb::b 1 1++aP ia::b 1 2
 else if k=11 then aP nH::b 1 0++aP xZ::b 1 1
 else if k=12 then aP rI::dM t::aP eD::iC n::aP cR::iC m::aP kN::b 1 0
 else if k=13 then aP nF::dM t::aP kN::b 1 0++aP ia::b 1 1
 else if k=14 then aP lQ::dM t::aP cR::iC n::aP kN::b 1 0
 else if k=15 then aP lP::b 1 0++aP ia::b 1 1
 else if k=16 then dM t::aP cR::b 1 0
 else if k=19 then aP s0::b 4 0
 else if k=25 then b 8 0++[aP zZ,iC n]
 else if 17 <= k/\k <= 24 then b (if dk k=5 then 6 else dk k) 0++aP (oS k)::b (dk k+1) 1
 else if k=26 then [iC n]
 else if k=27 then [aP gz]
 else if k=28 then [aP gp]
 else if k=29 then [aP jM]
 else if k=30 then [aP lE]
 else if k=31 then [aP qD,dM t]
 else if k=32 then [aP qz,dM t]
 else if k=33\/k=37 then [dM t]
 else if k=34 then dM t::aP ek::dr dW all++[aP eV]
 else if k=35 then aP x5::aP ek::dr dW (all.take (ks.length - 1))++aP eV::b 1 (ks.length - 1)
 else if k=36 then aP qB::aP uO::b 1 0++aP dO::aP s8::g 1++aP rE::b 1 2++[aP rG]
 else []
namespace Tre
mutual
def pr:Tre->List Tx
 | mk k t n m _ ks=>ck k t n m (OP ks)
def OP:List Tre->List (Int × List Tx)
 | []=>[]
 | t::ts=>(t.kind,pr t)::OP ts
end
end Tre
def nh (a b:Tx):Bool:=(a.1 != 4 && b.1 != 4) || (a.2 == eD && b.2 == iJ)
def eM:List Tx->aY
 | []=>[]
 | [a]=>a.2
 | a::b::l=>a.2++(if nh a b then [32] else [])++eM (b::l)
def dG (l:List Tx):aY × Int:=if 900 < l.length then ([],5) else if 2500 < (eM l).length then ([],5) else (eM l,0)
end Go.Rip
namespace Go.Rip
def fy (l:List Nd) (en:Int):Nat->Nat->List Nat
 | 0,_=>[]
 | f+1,p=>match l[p]? with
   | some x=>if (p:Int) < en/\0 < x.size then p::fy l en f (p+x.size.toNat) else []
   | none=>[]
def jX:List Nd->Nat->List Int->Bool
 | [],_,_=>false
 | x::r,n,es=>if 60 < (es.filter ((n:Int) < ·)).length then true else jX r (n+1) (es.filter ((n:Int) < ·)++[(n:Int)+x.size])
def mR (l:List Nd):Int:=match l with | x::_=>x.size | []=>0
def tp (l:List Nd):Bool:=jX l 0 [] || decide (24 < (fy l (mR l) l.length 1).length)
namespace Tre
theorem fY {k:Int} {t:aY} {n m a:Int} {ks:List Tre}:flat (mk k t n m a ks)=⟨k,t,n,m,a,((bQ ks).length:Int)+1⟩::bQ ks:=by rw [flat]; rfl
@[simp] theorem rO:bQ []=[]:=by rw [bQ]
@[simp] theorem dh {t:Tre} {ts:List Tre}:bQ (t::ts)=flat t++bQ ts:=by rw [bQ]
theorem yR:∀ (l l':List Tre),bQ (l++l')=bQ l++bQ l'
 | [],l'=>by simp
 | t::l,l'=>by simp [yR l l']
@[simp] theorem afA:yo []=true:=by rw [yo]
@[simp] theorem tN {t:Tre} {ts:List Tre}:yo (t::ts)=(ok t && yo ts):=by rw [yo]
@[simp] theorem JY {k:Int} {t:aY} {n m a:Int} {ks:List Tre}:deep (mk k t n m a ks)=lW ks:=by rw [deep]
@[simp] theorem jE:lW []=0:=by rw [lW]
@[simp] theorem mJ {t:Tre} {ts:List Tre}:lW (t::ts)=max (deep t+1) (lW ts):=by rw [lW]
theorem du:∀ t:Tre,0 < t.flat.length
 | mk k t n m a ks=>by rw [fY]; simp
theorem mC:∀ ts:List Tre,ts.length <= (bQ ts).length
 | []=>by simp
 | t::ts=>by
   have:=mC ts
   have:=du t
   simp; omega
theorem pR:∀ t:Tre,∃ x r,t.flat=x::r/\x.kind=t.kind/\x.size=t.flat.length/\x.text=t.text/\x.n=t.n/\x.m=t.m/\x.at_=t.at_/\r=bQ t.kids
 | mk k t n m a ks=>⟨_,_,fY,rfl,by rw [fY]; simp,rfl,rfl,rfl,rfl,rfl⟩
theorem uk:∀ (N:Nat) (ts KP:List Tre) (r r':List Nd),(bQ ts).length <= N->bQ ts++r=bQ KP++r'->(bQ ts).length=(bQ KP).length->ts=KP
 | N,[],[],_,_,_,_,_=>rfl
 | N,[],t::ts,_,_,_,_,h=>by have:=du t; simp only [dh,rO,cZ,kJ] at h; omega
 | N,t::ts,[],_,_,_,_,h=>by have:=du t; simp only [dh,rO,cZ,kJ] at h; omega
 | 0,t::ts,_,_,_,hN,_,_=>by have:=du t; simp only [dh,cZ] at hN; omega
 | N+1,mk k t n m a ks::ts,mk k' t' n' m' a' ks'::KP,r,r',hN,h,hl=>by
   simp only [dh,fY,iX,kI,List.cons.injEq,Nd.mk.injEq,gu,cZ] at h hl hN
   obtain ⟨⟨rfl,rfl,rfl,rfl,rfl,hs⟩,h⟩:=h
   have hs:(bQ ks).length=(bQ ks').length:=by omega
   have e:=uk N ks ks' (bQ ts++r) (bQ KP++r') (by omega) h hs
   subst e
   have h2:=List.append_cancel_left h
   have e:=uk N ts KP r r' (by omega) h2 (by omega)
   rw [e]
theorem GS {t t':Tre} (h:t.flat=t'.flat):t=t':=by
 have:=uk (bQ [t]).length [t] [t'] [] [] (gE _) (by simp [h]) (by simp [h])
 simpa using this
end Tre
def aX:Nat->List Tre->List Nat
 | _,[]=>[]
 | p,t::ts=>p::aX (p+t.flat.length) ts
theorem fx:∀ (p:Nat) (ts:List Tre),(aX p ts).length=ts.length
 | _,[]=>rfl
 | p,t::ts=>by simp [aX,fx]
def oV (l:List Nd) (p:Nat) (ts:List Tre):Prop:=∃ r,l.drop p=Tre.bQ ts++r
def cQ (l:List Nd) (p:Nat) (t:Tre):Prop:=∃ r,l.drop p=t.flat++r
section
variable {l:List Nd} {p:Nat} {t:Tre} {ts:List Tre}
theorem oV.head (h:oV l p (t::ts)):cQ l p t:=by
 obtain ⟨r,h⟩:=h
 exact ⟨Tre.bQ ts++r,by rw [h]; simp⟩
theorem oV.tail (h:oV l p (t::ts)):oV l (p+t.flat.length) ts:=by
 obtain ⟨r,h⟩:=h
 refine ⟨r,?_⟩
 rw [<- List.drop_drop,h]
 simp
theorem cQ.lR (h:cQ l p t):∃ x,l[p]?=some x/\x.kind=t.kind/\x.size=t.flat.length/\x.text=t.text/\x.n=t.n/\x.m=t.m/\x.at_=t.at_:=by
 obtain ⟨r,h⟩:=h
 obtain ⟨x,r',h1,h2,h3,h4,h5,h6,h7,h8⟩:=t.pR
 refine ⟨x,?_,h2,h3,h4,h5,h6,h7⟩
 rw [h1] at h
 have:(l.drop p)[0]?=some x:=by rw [h]; rfl
 simpa using this
theorem cQ.le (h:cQ l p t):p+t.flat.length <= l.length:=by
 obtain ⟨r,h⟩:=h
 have h':=congrArg List.length h
 have:=t.du
 simp only [List.length_drop,cZ] at h'; omega
theorem cQ.kids (h:cQ l p t):oV l (p+1) t.kids:=by
 obtain ⟨r,h⟩:=h
 obtain ⟨x,r',h1,h2,h3,h4,h5,h6,h7,h8⟩:=t.pR
 refine ⟨r,?_⟩
 rw [<- List.drop_drop,h,h1,h8]
 rfl
theorem jm (t:Tre):t.flat.length=(Tre.bQ t.kids).length+1:=by
 cases t with
 | mk k t n m a ks=>rw [Tre.fY]; rfl
theorem cQ.whole (t:Tre):cQ t.flat 0 t:=⟨[],by simp⟩
theorem EZ:∀ (ts:List Tre) (p f:Nat),oV l p ts->ts.length <= f->fy l ((p:Int)+(Tre.bQ ts).length) f p=aX p ts
 | [],p,0,h,hf=>rfl
 | [],p,f+1,h,hf=>by
   simp only [fy,aX,Tre.rO,kJ]
   split
   . rw [if_neg (by omega)]
   . rfl
 | t::ts,p,0,h,hf=>by simp at hf
 | t::ts,p,f+1,h,hf=>by
   obtain ⟨x,hx,_,hs,_⟩:=h.head.lR
   have hp:=t.du
   simp only [fy,aX,hx]
   rw [if_pos (by simp; omega)]
   have:=EZ ts (p+t.flat.length) f h.tail (by simp at hf; omega)
   have e:p+x.size.toNat=p+t.flat.length:=by omega
   rw [e,<- this]
   congr 2
   simp; omega
theorem xe (h:cQ l p t):fy l ((p:Int)+t.flat.length) l.length (p+1)=aX (p+1) t.kids:=by
 have:=EZ t.kids (p+1) l.length h.kids (by
  have:=h.le
  have:=jm t
  have:=Tre.mC t.kids
  omega)
 rw [<- this]
 have:=jm t
 congr 1
 omega
theorem wo:∀ (N:Nat) (ts:List Tre) (p:Nat),(Tre.bQ ts).length <= N->oV l p ts->∀ i,p <= i->i < p+(Tre.bQ ts).length->∃ t,cQ l i t/\(Tre.yo ts=true->t.ok=true)
 | N,[],p,hN,h,i,h1,h2=>by simp at h2; omega
 | 0,t::ts,p,hN,h,i,h1,h2=>by have:=t.du; simp only [Tre.dh,cZ] at hN; omega
 | N+1,.mk k tx n m a ks::ts,p,hN,h,i,h1,h2=>by
   simp only [Tre.dh,Tre.fY,cZ,gu] at hN h2
   by_cases he:i=p
   . subst he
     refine ⟨_,h.head,fun ho=>?_⟩
     rw [Tre.tN,bX] at ho
     exact ho.1
   . by_cases hi:i < p+((Tre.bQ ks).length+1)
     . obtain ⟨t,ht,ho⟩:=wo N ks (p+1) (by omega) h.head.kids i (by omega) (by omega)
       refine ⟨t,ht,fun hk=>ho ?_⟩
       rw [Tre.tN,Tre.ok] at hk
       simp only [bX] at hk
       exact hk.1.2
     . obtain ⟨t,ht,ho⟩:=wo N ts (p+(Tre.flat (.mk k tx n m a ks)).length) (by omega) h.tail i (by rw [Tre.fY]; simp; omega) (by rw [Tre.fY]; simp; omega)
       refine ⟨t,ht,fun hk=>ho ?_⟩
       rw [Tre.tN,bX] at hk
       exact hk.2
end
theorem ye (l:List Nd) (n:Nat) (es:List Int):jX l n (es.filter ((n:Int) < ·))=jX l n es:=by
 cases l with
 | nil=>rfl
 | cons x r=>simp only [jX,List.filter_filter,Bool.and_self]
theorem yU:∀ (N:Nat) (ts:List Tre) (n:Nat) (es:List Int) (r:List Nd),(Tre.bQ ts).length <= N->(∀ e ∈ es,(n:Int)+(Tre.bQ ts).length <= e) ->
 jX (Tre.bQ ts++r) n es=((decide (ts ≠ []) && decide (60 < es.length+(Tre.lW ts - 1))) || jX r (n+(Tre.bQ ts).length) es)
 | N,[],n,es,r,hN,yY=>by simp
 | 0,t::ts,n,es,r,hN,yY=>by have:=t.du; simp only [Tre.dh,cZ] at hN; omega
 | N+1,.mk k tx a b c ks::ts,n,es,r,hN,yY=>by
   simp only [Tre.dh,Tre.fY,cZ,gu] at hN yY
   have NC:es.filter ((n:Int) < ·)=es:=by
    rw [List.filter_eq_self]
    intro e he
    have:=yY e he
    simp only [da]
    omega
   simp only [Tre.dh,Tre.fY,iX,kI,jX,NC,Tre.mJ,Tre.JY]
   by_cases vO:60 < es.length
   . rw [if_pos vO]
     simp; omega
   . rw [if_neg vO]
     have h1:=yU N ks (n+1) (es++[(n:Int)+(((Tre.bQ ks).length:Int)+1)]) (Tre.bQ ts++r) (by omega) (fun e he=>by
      simp only [fN,kH] at he
      rcases he with he | rfl
      . have:=yY e he; omega
      . omega)
     rw [h1]
     have h2:jX (Tre.bQ ts++r) (n+1+(Tre.bQ ks).length) (es++[(n:Int)+(((Tre.bQ ks).length:Int)+1)])=jX (Tre.bQ ts++r) (n+1+(Tre.bQ ks).length) es:=by
      rw [<- ye,<- ye (es:=es)]
      congr 1
      rw [List.filter_append]
      have:List.filter (fun x=>decide (((n+1+(Tre.bQ ks).length:Nat):Int) < x)) [(n:Int)+(((Tre.bQ ks).length:Int)+1)]=[]:=by
       rw [List.filter_cons_of_neg,List.filter_nil]
       simp only [da]; omega
      rw [this,gw]
     rw [h2]
     have h3:=yU N ts (n+1+(Tre.bQ ks).length) es r (by omega) (fun e he=>by have:=yY e he; omega)
     rw [h3]
     have e1:n+1+(Tre.bQ ks).length+(Tre.bQ ts).length=n+((Tre.flat (.mk k tx a b c ks)).length+(Tre.bQ ts).length):=by rw [Tre.fY]; simp; omega
     have e2:n+((Tre.bQ ks).length+1+(Tre.bQ ts).length)=n+1+(Tre.bQ ks).length+(Tre.bQ ts).length:=by omega
     simp only [cZ,gu,kJ,e2,Tre.fY]
     rw [<- Bool.or_assoc]
     congr 1
     rw [o3]
     have hd:ks=[]->Tre.lW ks=0:=fun e=>by rw [e,Tre.jE]
     have sC:ts=[]->Tre.lW ts=0:=fun e=>by rw [e,Tre.jE]
     have hdp:ks ≠ []->0 < Tre.lW ks:=fun e=>by
      cases ks with
      | nil=>exact absurd rfl e
      | cons t ks=>rw [Tre.mJ]; omega
     have ZN:ts ≠ []->0 < Tre.lW ts:=fun e=>by
      cases ts with
      | nil=>exact absurd rfl e
      | cons t ks=>rw [Tre.mJ]; omega
     simp only [jI,bX,da,ne_eq,reduceCtorEq,not_false_eq_true,true_and]
     by_cases hk:ks=[]
     . have:=hd hk
       by_cases ht:ts=[]
       . have:=sC ht
         rw [ht] at this
         simp only [hk,ht,not_true,false_and,or_false,false_iff,Tre.jE]; omega
       . have:=ZN ht
         simp only [hk,ht,not_true,false_and,false_or,not_false_eq_true,true_and,Tre.jE]; omega
     . have:=hdp hk
       by_cases ht:ts=[]
       . simp only [hk,ht,not_true,false_and,or_false,not_false_eq_true,true_and,Tre.jE]; omega
       . have:=ZN ht
         simp only [hk,ht,not_false_eq_true,true_and]; omega
     congr 1; omega
theorem Jd (t:Tre):jX t.flat 0 []=decide (60 < t.deep):=by
 have:=yU t.flat.length [t] 0 [] [] (by simp) (by simp)
 simp only [Tre.dh,Tre.rO,gw,Tre.mJ,Tre.jE,ne_eq,reduceCtorEq,not_false_eq_true,bZ,Bool.true_and,kJ] at this
 rw [this]
 simp only [jX,Bool.or_false]
 rw [o3]; simp only [da]; omega
theorem Je (t:Tre):tp t.flat=(decide (60 < t.deep) || decide (24 < t.kids.length)):=by
 unfold tp
 rw [Jd]
 have h:=xe (cQ.whole t)
 have hs:mR t.flat=((0:Nat):Int)+t.flat.length:=by
  obtain ⟨x,r,h1,_,h3,_⟩:=t.pR
  rw [h1] at h3 ⊢
  simp only [mR]; omega
 rw [hs,h,fx]
open Classical in
noncomputable def xP (l:List Nd):Option Tre:=if h:∃ t:Tre,l=t.flat then some h.choose else none
theorem FE (t:Tre):xP t.flat=some t:=by
 unfold xP
 have h:∃ t':Tre,t.flat=t'.flat:=⟨t,rfl⟩
 rw [dif_pos h]
 have:=h.choose_spec
 rw [<- Tre.GS this]
theorem RQ {l:List Nd} (h:¬ ∃ t:Tre,l=t.flat):xP l=none:=by unfold xP; rw [dif_neg h]
theorem RR {l:List Nd} {t:Tre} (h:xP l=some t):l=t.flat:=by
 unfold xP at h
 split at h
 . rename_i h'
   have:=h'.choose_spec
   cases h
   exact this
 . cases h
def sg (t:Tre):Int:=if t.kind ≠ 1\/t.ok=false then 4 else if 60 < t.deep\/24 < t.kids.length then 5 else 0
noncomputable def gY (l:List Nd):Int:=if 900 < l.length then 5 else match xP l with | none=>4 | some t=>sg t
theorem yI (t:Tre) (h:¬ 900 < t.flat.length):gY t.flat=sg t:=by unfold gY; rw [if_neg h,FE]
end Go.Rip
namespace Go.Rip
def oN (l:List Nd) (e:Nat):Nat->Nat->Nat
 | 0,p=>p
 | f+1,p=>if p < e then oN l e f (p+((l[p]?.map Nd.size).getD 0).toNat) else p
def fV (l:List Nd) (i:Nat):Nat:=((l[i]?.map Nd.size).getD 0).toNat
def yz (l:List Nd):Prop:=l ≠ []/\mR l=l.length/\∀ (i:Nat) (x:Nd),l[i]?=some x->1 <= x.size/\x.size <= (l.length:Int) - i
def wE (l:List Nd):Prop:=yz l/\∀ (i:Nat) (x:Nd),l[i]?=some x->oN l (i+x.size.toNat) l.length (i+1)=i+x.size.toNat
theorem ta {l:List Nd} {e p:Nat} (h:¬ p < e):∀ f,oN l e f p=p
 | 0=>rfl
 | f+1=>by rw [oN,if_neg h]
theorem s9 {l:List Nd} {e p f:Nat} {x:Nd} (hx:l[p]?=some x) (h:p < e):oN l e (f+1) p=oN l e f (p+x.size.toNat):=by
 rw [oN,if_pos h,hx]; rfl
theorem Du {l:List Nd}:∀ (ts:List Tre) (p f:Nat),oV l p ts->ts.length <= f->oN l (p+(Tre.bQ ts).length) f p=p+(Tre.bQ ts).length
 | [],p,f,h,hf=>by rw [Tre.rO,ta (by simp)]; rfl
 | t::ts,p,0,h,hf=>by simp at hf
 | t::ts,p,f+1,h,hf=>by
   obtain ⟨x,hx,_,hs,_⟩:=h.head.lR
   have hp:=t.du
   rw [s9 hx (by simp; omega)]
   have:=Du ts (p+t.flat.length) f h.tail (by simp at hf; omega)
   have e:p+x.size.toNat=p+t.flat.length:=by omega
   have e2:p+(Tre.bQ (t::ts)).length=p+t.flat.length+(Tre.bQ ts).length:=by simp; omega
   rw [e,e2,this]
theorem Mt (t:Tre):wE t.flat:=by
 have sub:∀ i x,t.flat[i]?=some x->∃ t',cQ t.flat i t':=fun i x hx=>by
  have hi:=(de.1 hx).1
  obtain ⟨t',h,_⟩:=wo (l:=t.flat) t.flat.length [t] 0 (by simp) ⟨[],by simp⟩ i (by omega) (by simpa using hi)
  exact ⟨t',h⟩
 refine ⟨⟨?_,?_,fun i x hx=>?_⟩,fun i x hx=>?_⟩
 . have:=t.du
   intro e; rw [e] at this; simp at this
 . obtain ⟨x,r,h1,_,h3,_⟩:=t.pR
   rw [h1] at h3 ⊢; exact h3
 . obtain ⟨t',h⟩:=sub i x hx
   obtain ⟨y,hy,_,hs,_⟩:=h.lR
   rw [hx] at hy; cases hy
   have:=h.le
   have:=t'.du
   omega
 . obtain ⟨t',h⟩:=sub i x hx
   obtain ⟨y,hy,_,hs,_⟩:=h.lR
   rw [hx] at hy; cases hy
   have hl:=jm t'
   have:=Du t'.kids (i+1) t.flat.length h.kids (by
    have:=h.le
    have:=Tre.mC t'.kids
    omega)
   have e:i+x.size.toNat=i+1+(Tre.bQ t'.kids).length:=by omega
   rw [e]; exact this
theorem zL {l:List Nd} (hs:wE l):∀ (N i e f:Nat),e - i <= N->i <= e->e <= l.length->e - i <= f->oN l e f i=e->∃ ts,l.drop i=Tre.bQ ts++l.drop e/\(Tre.bQ ts).length=e - i
 | N,i,e,f,hN,hie,he,hf,hw=>by
   by_cases h:i=e
   . subst h; exact ⟨[],by simp,by simp⟩
   . cases N with
     | zero=>omega
     | succ N =>
     cases f with
     | zero=>omega
     | succ f =>
     obtain ⟨x,hx⟩:∃ x,l[i]?=some x:=⟨l[i]'(by omega),by simp⟩
     have NR:=hs.1.2.2 i x hx
     rw [s9 hx (by omega)] at hw
     have hse:i+x.size.toNat <= e:=by
      rcases gr e (i+x.size.toNat) with h1 | h1
      . rw [ta (by omega)] at hw; omega
      . exact h1
     obtain ⟨ks,k1,k2⟩:=zL hs N (i+1) (i+x.size.toNat) l.length (by omega) (by omega) (by omega) (by omega) (hs.2 i x hx)
     obtain ⟨ts,t1,t2⟩:=zL hs N (i+x.size.toNat) e f (by omega) hse he (by omega) hw
     have CC:(Tre.mk x.kind x.text x.n x.m x.at_ ks).flat=x::Tre.bQ ks:=by
      rw [Tre.fY]
      have:((Tre.bQ ks).length:Int)+1=x.size:=by omega
      rw [this]
     refine ⟨.mk x.kind x.text x.n x.m x.at_ ks::ts,?_,?_⟩
     . have hd:l.drop i=x::l.drop (i+1):=by
        rw [fU (by omega)]
        have:=(de.1 hx).2
        rw [this]
       rw [hd,k1,t1,Tre.dh,CC]
       simp
     . rw [Tre.dh,CC]; simp; omega
theorem uL (l:List Nd):wE l ↔ ∃ t:Tre,l=t.flat:=by
 refine ⟨fun h=>?_,fun ⟨t,ht⟩=>ht ▸ Mt t⟩
 cases l with
 | nil=>exact absurd rfl h.1.1
 | cons x r =>
   have eH:x.size=(r.length:Int)+1:=by have:=h.1.2.1; simpa [mR] using this
   have hw:=h.2 0 x rfl
   obtain ⟨ks,k1,k2⟩:=zL h r.length 1 (r.length+1) (r.length+1) (by omega) (by omega) (by simp) (by omega) (by
    have e:0+x.size.toNat=r.length+1:=by omega
    rw [e] at hw; exact hw)
   refine ⟨.mk x.kind x.text x.n x.m x.at_ ks,?_⟩
   rw [Tre.fY]
   have hr:r=Tre.bQ ks:=by
    have:(x::r).drop 1=r:=rfl
    rw [this,List.drop_of_length_le (by simp),gw] at k1
    exact k1
   rw [<- hr,<- eH]
theorem BV {p:Int->Bool}:∀ {l:List Int},(∀ x ∈ l,p x=true)->l.takeWhile p=l
 | [],_=>rfl
 | a::l,h=>by rw [lL,if_pos (h a (by simp)),BV fun x hx=>h x (by simp [hx])]
theorem Iy {p:Int->Bool}:∀ {l:List Int},l.takeWhile p=l->∀ x ∈ l,p x=true
 | [],_=>by simp
 | a::l,h=>by
   rw [lL] at h
   split at h
   . rename_i ha
     intro x hx
     rcases cF.1 hx with rfl | hx
     . exact ha
     . exact Iy (List.cons.inj h).2 x hx
   . cases h
theorem vH (c:mZ) (lo hi:Nat) (ks:List Int):c7 ks [⟨c,lo,hi⟩]=(decide (lo <= ks.length/\ks.length <= hi) && ks.all c.is):=by
 rw [c7]
 simp only [jU,List.sum_nil,Nat.sub_zero,c7]
 have hle:((ks.take (min ks.length hi)).takeWhile c.is).length <= min ks.length hi:=by
  have:=(qS c.is (l:=ks.take (min ks.length hi))).length_le
  rw [List.length_take] at this; omega
 rw [o3]
 constructor
 . intro h
   split at h
   . cases h
   . rename_i h1
     have h2:ks.length <= ((ks.take (min ks.length hi)).takeWhile c.is).length:=by
      have:(ks.drop ((ks.take (min ks.length hi)).takeWhile c.is).length).length=0:=by
       rw [List.isEmpty_iff.1 h]; rfl
      rw [List.length_drop] at this; omega
     have AO:=Nat.le_trans h2 hle
     have h3:ks.take (min ks.length hi)=ks:=o4 (by omega)
     rw [h3] at h1 h2
     have h4:ks.takeWhile c.is=ks:=(qS c.is).eq_of_length_le h2
     have h5:=Iy h4
     rw [h4] at h1
     simp only [bX,da,ep]
     exact ⟨⟨by omega,by omega⟩,h5⟩
 . intro h
   simp only [bX,da,ep] at h
   obtain ⟨⟨h1,h2⟩,h3⟩:=h
   have e1:ks.take (min ks.length hi)=ks:=o4 (by omega)
   have e2:ks.takeWhile c.is=ks:=BV h3
   rw [e1,e2,if_neg (by omega)]
   simp
theorem kX:∀ (cs:List mZ) (ks:List Int),c7 ks (cs.map fun c=>⟨c,1,1⟩)=true->ks.length=cs.length
 | [],ks,h=>by simp only [jU,c7,List.isEmpty_iff] at h; simp [h]
 | c::cs,ks,h=>by
   rw [dV,c7] at h
   simp only at h
   split at h
   . cases h
   . rename_i h1
     have h7:=kX cs _ h
     have hle:∀ n,((ks.take (min n 1)).takeWhile c.is).length <= 1/\((ks.take (min n 1)).takeWhile c.is).length <= ks.length:=fun n=>by
      have:=(qS c.is (l:=ks.take (min n 1))).length_le
      rw [List.length_take] at this; omega
     have h8:=hle (ks.length - ((cs.map fun c=>(⟨c,1,1⟩:ng)).map (·.least)).sum)
     rw [List.length_drop] at h7
     have key:∀ q a b:Nat,¬ q < 1->a - q=b->q <= 1/\q <= a->a=b+1:=by omega
     rw [gu]
     exact key _ _ _ h1 h7 h8
theorem Iq (cs:List mZ):((cs.map fun c=>(⟨c,1,1⟩:ng)).map (·.least)).sum=cs.length:=by
 induction cs with
 | nil=>rfl
 | cons c cs ih=>simp only [dV,List.sum_cons,gu,ih]; omega
theorem iz (c:mZ) (cs:List mZ) (k:Int) (ks:List Int) (h:ks.length=cs.length):c7 (k::ks) (⟨c,1,1⟩::cs.map fun c=>⟨c,1,1⟩)=(c.is k && c7 ks (cs.map fun c=>⟨c,1,1⟩)):=by
 rw [c7]
 simp only [Iq]
 have:min ((k::ks).length - cs.length) 1=1:=by simp; omega
 rw [this]
 simp only [List.take_succ_cons,List.take_zero,lL,List.takeWhile_nil]
 cases c.is k <;> simp
theorem rk (s:ng) (cs:List mZ) (ks:List Int) (hm:ks.length <= s.nL+cs.length):c7 ks (s::cs.map fun c=>⟨c,1,1⟩)=(decide (s.least+cs.length <= ks.length) && ((ks.take (ks.length - cs.length)).all s.c.is && c7 (ks.drop (ks.length - cs.length)) (cs.map fun c=>⟨c,1,1⟩))):=by
 rw [c7]
 simp only [Iq]
 have e0:min (ks.length - cs.length) s.nL=ks.length - cs.length:=by omega
 rw [e0]
 have hle:((ks.take (ks.length - cs.length)).takeWhile s.c.is).length <= ks.length - cs.length:=by
  have:=(qS s.c.is (l:=ks.take (ks.length - cs.length))).length_le
  rw [List.length_take] at this; omega
 by_cases bA:∀ x ∈ ks.take (ks.length - cs.length),s.c.is x=true
 . have e2:(ks.take (ks.length - cs.length)).takeWhile s.c.is=ks.take (ks.length - cs.length):=BV bA
   have e3:(ks.take (ks.length - cs.length)).all s.c.is=true:=ep.2 bA
   rw [e2,e3,List.length_take,Nat.min_eq_left (by omega)]
   by_cases h:s.least+cs.length <= ks.length
   . rw [if_neg (by omega)]; simp [h]
   . rw [decide_eq_false h,Bool.false_and]
     by_cases h2:ks.length - cs.length < s.least
     . rw [if_pos h2]
     . rw [if_neg h2]
       have:s.least=0:=by omega
       cases hf:c7 (ks.drop (ks.length - cs.length)) (cs.map fun c=>⟨c,1,1⟩) with
       | false=>rfl
       | true =>
         have:=kX cs _ hf
         rw [List.length_drop] at this
         omega
 . have e3:(ks.take (ks.length - cs.length)).all s.c.is=false:=by
    cases h:(ks.take (ks.length - cs.length)).all s.c.is with
    | false=>rfl
    | true=>exact absurd (ep.1 h) bA
   rw [e3,Bool.false_and,Bool.and_false]
   have aM:((ks.take (ks.length - cs.length)).takeWhile s.c.is).length < ks.length - cs.length:=by
    refine Nat.lt_of_le_of_ne hle fun e=>bA ?_
    have:(ks.take (ks.length - cs.length)).takeWhile s.c.is=ks.take (ks.length - cs.length):=(qS _).eq_of_length_le (by rw [List.length_take]; omega)
    exact Iy this
   split
   . rfl
   . cases hf:c7 (ks.drop ((ks.take (ks.length - cs.length)).takeWhile s.c.is).length) (cs.map fun c=>⟨c,1,1⟩) with
     | false=>rfl
     | true =>
       have:=kX cs _ hf
       rw [List.length_drop] at this
       omega
end Go.Rip
namespace Go.Rip
mutual
def n6:Nat->Tre->List Nat
 | d,.mk _ _ _ _ _ ks=>d::mK (d+1) ks
def mK:Nat->List Tre->List Nat
 | _,[]=>[]
 | d,t::ts=>n6 d t++mK d ts
end
@[simp] theorem Na {d:Nat}:mK d []=[]:=by rw [mK]
@[simp] theorem wK {d:Nat} {t:Tre} {ts:List Tre}:mK d (t::ts)=n6 d t++mK d ts:=by rw [mK]
theorem vD {d:Nat} {k:Int} {t:aY} {n m a:Int} {ks:List Tre}:n6 d (.mk k t n m a ks)=d::mK (d+1) ks:=by rw [n6]
theorem tj:∀ (N:Nat) (ts:List Tre) (d:Nat),(Tre.bQ ts).length <= N->(mK d ts).length=(Tre.bQ ts).length
 | _,[],_,_=>by simp
 | 0,t::ts,_,h=>by have:=t.du; simp only [Tre.dh,cZ] at h; omega
 | N+1,.mk k t n m a ks::ts,d,h=>by
   simp only [Tre.dh,Tre.fY,cZ,gu] at h
   have h1:=tj N ks (d+1) (by omega)
   have h2:=tj N ts d (by omega)
   simp only [wK,vD,Tre.dh,Tre.fY,cZ,gu,h1,h2]
theorem uV (d:Nat) (t:Tre):(n6 d t).length=t.flat.length:=by
 have:=tj _ [t] d (gE _)
 simpa using this
theorem DG:∀ (N:Nat) (ts:List Tre) (d c:Nat),(Tre.bQ ts).length <= N->((∃ x ∈ mK d ts,c < x) ↔ ts ≠ []/\c < d+(Tre.lW ts - 1))
 | _,[],_,_,_=>by simp
 | 0,t::ts,_,_,h=>by have:=t.du; simp only [Tre.dh,cZ] at h; omega
 | N+1,.mk k t n m a ks::ts,d,c,h=>by
   simp only [Tre.dh,Tre.fY,cZ,gu] at h
   have h1:=DG N ks (d+1) c (by omega)
   have h2:=DG N ts d c (by omega)
   have e:(∃ x ∈ mK d (Tre.mk k t n m a ks::ts),c < x) ↔ (c < d\/(∃ x ∈ mK (d+1) ks,c < x))\/∃ x ∈ mK d ts,c < x:=by
    simp only [wK,vD,iX,cF,fN]
    constructor
    . rintro ⟨x,rfl | hx | hx,hc⟩
      . exact .inl (.inl hc)
      . exact .inl (.inr ⟨x,hx,hc⟩)
      . exact .inr ⟨x,hx,hc⟩
    . rintro ((hc | ⟨x,hx,hc⟩) | ⟨x,hx,hc⟩)
      . exact ⟨d,.inl rfl,hc⟩
      . exact ⟨x,.inr (.inl hx),hc⟩
      . exact ⟨x,.inr (.inr hx),hc⟩
   rw [e,h1,h2]
   simp only [Tre.mJ,Tre.JY,ne_eq,reduceCtorEq,not_false_eq_true,true_and]
   have hd:∀ l:List Tre,l=[]->Tre.lW l=0:=fun l e=>by rw [e,Tre.jE]
   have hp:∀ l:List Tre,¬ l=[]->0 < Tre.lW l:=fun l e=>by
    cases l with
    | nil=>exact absurd rfl e
    | cons t l=>rw [Tre.mJ]; omega
   by_cases hk:ks=[]
   . have:=hd ks hk
     by_cases ht:ts=[]
     . have:=hd ts ht
       simp only [hk,ht,not_true,false_and,or_false,Tre.jE]; omega
     . have:=hp ts ht
       simp only [hk,ht,not_true,false_and,or_false,not_false_eq_true,true_and,Tre.jE]; omega
   . have:=hp ks hk
     by_cases ht:ts=[]
     . simp only [hk,ht,not_true,false_and,or_false,not_false_eq_true,true_and,Tre.jE]; omega
     . have:=hp ts ht
       simp only [hk,ht,not_false_eq_true,true_and]; omega
theorem GH (t:Tre):(∃ x ∈ n6 0 t,60 < x) ↔ 60 < t.deep:=by
 have:=DG _ [t] 0 60 (gE _)
 simp only [wK,Na,gw,ne_eq,reduceCtorEq,not_false_eq_true,true_and,Tre.mJ,Tre.jE] at this
 rw [this]; omega
def qK (D:List Nat) (p d:Nat) (ts:List Tre):Prop:=∃ r,D.drop p=mK d ts++r
section
variable {l:List Nd} {D:List Nat} {p d:Nat} {t:Tre} {ts:List Tre}
theorem qK.lR (h:qK D p d (t::ts)):D[p]?=some d:=by
 obtain ⟨r,h⟩:=h
 have:(D.drop p)[0]?=some d:=by
  rw [h]
  cases t
  simp [vD]
 simpa using this
theorem qK.tail (h:qK D p d (t::ts)):qK D (p+t.flat.length) d ts:=by
 obtain ⟨r,h⟩:=h
 refine ⟨r,?_⟩
 rw [<- List.drop_drop,h,<- uV d t]
 simp
theorem qK.kids (h:qK D p d (t::ts)):qK D (p+1) (d+1) t.kids:=by
 obtain ⟨r,h⟩:=h
 cases t with
 | mk k tx n m a ks =>
 refine ⟨mK d ts++r,?_⟩
 rw [<- List.drop_drop,h]
 simp [vD,Tre.kids]
theorem qK.aX:∀ {ts:List Tre} {p:Nat},qK D p d ts->∀ i ∈ aX p ts,D[i]?=some d
 | [],p,h,i,hi=>by simp [Rip.aX] at hi
 | t::ts,p,h,i,hi=>by
   simp only [Rip.aX,cF] at hi
   rcases hi with rfl | hi
   . exact h.lR
   . exact h.tail.aX i hi
theorem zx:∀ (N:Nat) (ts:List Tre) (p d:Nat),(Tre.bQ ts).length <= N->oV l p ts->qK D p d ts->∀ i,p <= i->i < p+(Tre.bQ ts).length ->
 (∃ s e,cQ l i s/\D[i]?=some e/\qK D (i+1) (e+1) s.kids/\e+p <= d+i)/\(i ∈ aX p ts\/∃ i' s',p <= i'/\i' < i/\cQ l i' s'/\i ∈ aX (i'+1) s'.kids)
 | N,[],p,d,hN,h,hd,i,h1,h2=>by simp at h2; omega
 | 0,t::ts,p,d,hN,h,hd,i,h1,h2=>by have:=t.du; simp only [Tre.dh,cZ] at hN; omega
 | N+1,t::ts,p,d,hN,h,hd,i,h1,h2=>by
   have yZ:=jm t
   simp only [Tre.dh,cZ] at hN h2
   by_cases he:i=p
   . subst he
     exact ⟨⟨t,d,h.head,hd.lR,hd.kids,gE _⟩,.inl (by simp [aX])⟩
   . by_cases hi:i < p+t.flat.length
     . obtain ⟨⟨s,e,a1,a2,a3,a4⟩,b⟩:=zx N t.kids (p+1) (d+1) (by omega) h.head.kids hd.kids i (by omega) (by omega)
       refine ⟨⟨s,e,a1,a2,a3,by omega⟩,.inr ?_⟩
       rcases b with b | ⟨i',s',b1,b2,b3⟩
       . exact ⟨p,t,gE _,by omega,h.head,b⟩
       . exact ⟨i',s',by omega,b2,b3⟩
     . have:=t.du
       obtain ⟨⟨s,e,a1,a2,a3,a4⟩,b⟩:=zx N ts (p+t.flat.length) d (by omega) h.tail hd.tail i (by omega) (by omega)
       refine ⟨⟨s,e,a1,a2,a3,by omega⟩,?_⟩
       rcases b with b | ⟨i',s',b1,b2,b3⟩
       . exact .inl (by simp [aX,b])
       . exact .inr ⟨i',s',by omega,b2,b3⟩
end
theorem place (t:Tre) {i:Nat} (hi:i < t.flat.length):(∃ s e,cQ t.flat i s/\(n6 0 t)[i]?=some e/\qK (n6 0 t) (i+1) (e+1) s.kids/\e <= i)/\(i=0\/∃ i' s',i' < i/\cQ t.flat i' s'/\i ∈ aX (i'+1) s'.kids):=by
 obtain ⟨⟨s,e,a1,a2,a3,a4⟩,b⟩:=zx (l:=t.flat) (D:=n6 0 t) t.flat.length [t] 0 0 (by simp) ⟨[],by simp⟩ ⟨[],by simp⟩ i (by omega) (by simpa using hi)
 refine ⟨⟨s,e,a1,a2,a3,by omega⟩,?_⟩
 rcases b with b | ⟨i',s',b1,b2,b3⟩
 . simp only [aX,cF,List.not_mem_nil,or_false] at b
   exact .inl b
 . exact .inr ⟨i',s',b2,b3⟩
theorem cQ.inj {l:List Nd} {i:Nat} {s s':Tre} (h:cQ l i s) (k:cQ l i s'):s=s':=by
 obtain ⟨r,h1⟩:=h
 obtain ⟨r',h2⟩:=k
 obtain ⟨x,hx,_,hs,_⟩:=cQ.lR ⟨r,h1⟩
 obtain ⟨x',ji,_,eE,_⟩:=cQ.lR ⟨r',h2⟩
 rw [hx] at ji; cases ji
 have:=Tre.uk s.flat.length [s] [s'] r r' (by simp) (by simpa using h1.symm.trans h2) (by simp; omega)
 simpa using this
end Go.Rip
