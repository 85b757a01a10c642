import Derived.Test.YtnfpmiiopiinbaaGreatDoorX
set_option linter.all false
namespace Go.Rip
def tx(t:Tk):Tx:=(t.k,t.s)
def bz(l:List Nd):List Nd:=l.map λx=>{ x with at_:=0 }
def At(L:List Tk)(i:Nat)(l:List Tx):Prop:=∃r,(L.drop i).map tx=l++r
variable {n:Int}
section
variable {L:List Tk}{E i j:Nat}{l l' a b:List Tx}{x:Tx}{w:aT}
def MJ:∀(f n:Nat),n<10 ^ f->oh 0 (lI f n)=(n:Int)
 | 0,n,h=>by simp at h;subst h;rfl
 | f+1,n,h=>by
   unfold lI;split
   . rename_i hn;show (10*(0:Int)+(((48+n).toUInt8.toNat:Int)-48))=n;have:(48+n).toUInt8.toNat=48+n:=by simp[Nat.toUInt8,UInt8.toNat_ofNat'];omega
     omega
   . rename_i hn;have ih:=MJ f (n / 10) (by rw[Nat.pow_succ]at h;omega);have hd:∀(s:aT)(c:UInt8)(a:Int),oh a (s++[c])=10*oh a s+((c.toNat:Int)-48):=λs c a=>by simp[oh,List.foldl_append]
     rw[hd,ih];have:(48+n%10).toUInt8.toNat=48+n%10:=by simp[Nat.toUInt8,UInt8.toNat_ofNat'];omega
     omega
def aar(h:ek n):xN (mZ n)=n:=by
 simp only[ek,dU]at h;have:=MJ 20 n.toNat (by
  have:(1000000:Nat)<10 ^ 20:=by decide
  omega)
 show oh 0 (mZ n)=n;unfold mZ;rw[this];omega
def Fo(L:List Tk)(lev j:Nat):Prop:=(∀l',lev<=l'->mi L l' j=none)/\bP L j dM=false/\bP L j bY=false
def FoT(L:List Tk)(j:Nat):Prop:=Fo L 2 j/\¬ (bP L j dF/\j+1<L.length/\zH L (j+1)=false)
def ym:List Int:=[17,18,20,21,22,23,24,25]
end
def aje:List Tx:=[bo uy,bo lU,bo qQ,bo mJ,bo jz,bo jR]
def ajd:List Tx:=[bo wJ,bo qP,bo eD,bo jc,bo eW]
def TxK(x:Tx):Prop:=x.1=1\/x.1=2\/x=bo x.2
abbrev akh(y:Tx):Prop:=((y.1==3||y.1==4)&&y.2==bY)=false
def Hd(lev:Nat)(l:List Tx):Prop:=∃x r,l=x::r/\TxK x/\x∉ajd/\(2<=lev->x∉aje/\(x.1=1->∀y r',r=y::r'->akh y))/\(5<=lev->x≠bo uA)
section
variable {L:List Tk}{E:Nat}
def Rd(L:List Tk)(p:Nat->PR (List Nd))(c i j:Nat)(T:List Nd):Prop:=∀f,40*(L.length-i)+c<=f->∃ns,bz ns=bz T/\p f=.ok ns j
variable (L E) in
def aja(lev:Nat)(l:List Tx)(T:List Nd):Prop:=∀i,At L i l->Fo L lev (i+l.length)->Rd L (λf=>fZ L E f lev i) (11-lev) i (i+l.length) T
variable (L E) in
def ai9(lev:Nat)(l:List Tx)(T:List Nd):Prop:=∀i,At L i l->Fo L (lev+1) (i+l.length)->∀f,40*(L.length-i)+(11-lev)<=f->∃ns f',bz ns=bz T/\40*(L.length-(i+l.length))+1<=f'/\fZ L E f lev i=ky L E f' lev ns (i+l.length)
variable (L E) in
def aeg(l:List Tx)(T:List Nd):Prop:=∀i,At L i l->Fo L 2 (i+l.length)->Rd L (λf=>cM L E f i) 10 i (i+l.length) T
variable (L E) in
def afT(l:List Tx)(T:List Nd):Prop:=∀i,At L i l->FoT L (i+l.length)->Rd L (λf=>iE L E f i) 11 i (i+l.length) T
variable {l:List Tx}{T:List Nd}{lev:Nat}
structure Good (L:List Tk) (E:Nat) (k:Int) (l:List Tx) (T:List Nd):Prop where
 term:afT L E l T
 first:k≠9->aeg L E l T
 op:2<=er k->aja L E (er k) l T
 ch:er k=2\/er k=3\/er k=6\/er k=7\/er k=8->ai9 L E (er k) l T
 hd:Hd (er k) l
end
@[simp] theorem ajf{α β:Type}{a:α}{i:Nat}{f:α->Nat->PR β}:(PR.ok a i).bind f=f a i:=rfl
def tL(w:aT):∀(l:List Tx)(ls:List (List Tx)),eH w (l::ls)=l++ls.flatMap λm=>bo w::m
 | l,[]=>by simp[eH]
 | l,m::ls=>by rw[eH,tL w m ls];simp
def Tre.Vj:∀ts:List Tre,Tre.Vi ts=ts.map λt=>(t.kind,t.pr)
 | []=>by rw[Tre.Vi];rfl
 | t::ts=>by rw[Tre.Vi,Tre.Vj ts];rfl
def Tre.ee(k:Int)(x:aT)(n m a:Int)(ks:List Tre):(Tre.mk k x n m a ks).pr=c8 k x n m (ks.map λt=>(t.kind,t.pr)):=by rw[Tre.pr,Tre.Vj]
def Tre.Qm:∀{ts:List Tre},Tre.wk ts->∀t∈ts,t.ok
 | [],_,t,h=>by cases h
 | t::ts,h,u,hu=>by
   rw[Tre.u9,cS]at h;rcases dy.1 hu with rfl|hu
   . exact h.1
   . exact Tre.Qm h.2 u hu
variable {k:Int}{ks:List Tre}
def Tre.BN{x:aT}{m a:Int}{ks:List Tre}(h:(Tre.mk k x n m a ks).ok):∃f,bS k=some f/\fx ⟨k,x,n,m,a,0⟩ f/\dB (ks.map Tre.kind) f.kids/\∀t∈ks,t.ok:=by
 rw[Tre.ok,cS]at h;obtain⟨h1,h2⟩:=h;split at h1
 . rename_i f hf;rw[cS]at h1;exact⟨f,hf,h1.1,h1.2,Tre.Qm h2⟩
 . cases h1
def Tre.Dk{t:Tre}(h:t∈ks):t.flat.length<=(Tre.cH ks).length:=by
 obtain⟨a,b,rfl⟩:=List.append_of_mem h;rw[Tre.pb,Tre.dT];simp;omega
variable {c:ku}
def oW(h:dB (ks.map Tre.kind) [⟨c,1,1⟩]):∃a,ks=[a]/\c.is a.kind:=by
 rw[Aj]at h
 match ks,h with
 | [],h=>simp at h
 | [a],h=>exact⟨a,rfl,by simpa using h⟩
 | a::b::r,h=>simp at h
def BG(h:dB (ks.map Tre.kind) [⟨c,2,2⟩]):∃a b,ks=[a,b]/\c.is a.kind/\c.is b.kind:=by
 rw[Aj]at h
 match ks,h with
 | [],h=>simp at h
 | [a],h=>simp at h
 | [a,b],h=>exact⟨a,b,rfl,by simpa using h⟩
 | a::b::c::r,h=>simp at h
def adj(h:dB (ks.map Tre.kind) [⟨c,3,3⟩]):∃a b d,ks=[a,b,d]/\c.is a.kind/\c.is b.kind/\c.is d.kind:=by
 rw[Aj]at h
 match ks,h with
 | [],h=>simp at h
 | [a],h=>simp at h
 | [a,b],h=>simp at h
 | [a,b,d],h=>exact⟨a,b,d,rfl,by simpa using h⟩
 | a::b::c::d::r,h=>simp at h
def K2{lo hi:Nat}{ks:List Tre}(h:dB (ks.map Tre.kind) [⟨c,lo,hi⟩]):lo<=ks.length/\∀t∈ks,c.is t.kind:=by
 rw[Aj]at h;simp only[cS,dU,List.length_map,fQ,List.mem_map,forall_exists_index,and_imp,forall_apply_eq_imp_iff₂]at h;exact⟨h.1.1,h.2⟩
def oE{α:Type}:∀{l:List α},1<=l.length->∃r x,l=r++[x]:=λ{l}h=>⟨l.dropLast,l.getLast (by intro e;subst e;simp at h),(List.dropLast_concat_getLast _).symm⟩
variable {d:ku}
def Hb{lo:Nat}(hl:ks.length<=901)(h:dB (ks.map Tre.kind) [⟨c,lo,900⟩,⟨d,1,1⟩]):∃ps b,ks=ps++[b]/\lo<=ps.length/\(∀t∈ps,c.is t.kind)/\d.is b.kind:=by
 have:=vE ⟨c,lo,900⟩ [d] (ks.map Tre.kind) (by simpa using hl);rw[show (⟨c,lo,900⟩::[d].map λc=>(⟨c,1,1⟩:nq))=[⟨c,lo,900⟩,⟨d,1,1⟩] from rfl]at this;rw[this]at h;simp only[cS,dU,List.length_map,jm,nQ]at h;obtain⟨h1,h2,h3⟩:=h;obtain⟨ps,b,rfl⟩:=oE (l:=ks) d6;simp only[dx,jm,nQ,cK,Nat.add_sub_cancel,List.map_append]at h1 h2 h3;rw[List.take_left' d8]at h2;rw[List.drop_left' d8]at h3;have h3:dB ([b].map Tre.kind) [⟨d,1,1⟩]:=h3;obtain⟨b',e,h3⟩:=oW h3;obtain rfl:b=b':=by simpa using e
 exact⟨ps,b,rfl,d6,by simpa using h2,h3⟩
def P8(h:dB (ks.map Tre.kind) [⟨c,1,1⟩,⟨d,1,1⟩]):∃a b,ks=[a,b]/\c.is a.kind/\d.is b.kind:=by
 have hl:=oo [c,d] _ h
 match ks,hl with
 | [a,b],_ =>
   have:=kD c [d] a.kind [b.kind] rfl;have h:dB (a.kind::[b.kind]) (⟨c,1,1⟩::[d].map λc=>⟨c,1,1⟩):=h;rw[this,cS]at h;obtain⟨b',e,h3⟩:=oW (ks:=[b]) (c:=d) h.2;obtain rfl:b=b':=by simpa using e
   exact⟨a,b,rfl,h.1,h3⟩
def P9{e:ku}(h:dB (ks.map Tre.kind) [⟨c,1,1⟩,⟨d,1,1⟩,⟨e,1,1⟩]):∃a b g,ks=[a,b,g]/\c.is a.kind/\d.is b.kind/\e.is g.kind:=by
 have hl:=oo [c,d,e] _ h
 match ks,hl with
 | [a,b,g],_ =>
   have:=kD c [d,e] a.kind [b.kind,g.kind] rfl;have h:dB (a.kind::[b.kind,g.kind]) (⟨c,1,1⟩::[d,e].map λc=>⟨c,1,1⟩):=h;rw[this,cS]at h;obtain⟨b',g',e',h3,h4⟩:=P8 (ks:=[b,g]) (c:=d) (d:=e) h.2;simp only[List.cons.injEq,and_true]at e';obtain⟨rfl,rfl⟩:=e';exact⟨a,b,g,rfl,h.1,h3,h4⟩
def BH{e:ku}{lo:Nat}(hl:ks.length<=902)(h:dB (ks.map Tre.kind) [⟨c,lo,900⟩,⟨d,1,1⟩,⟨e,1,1⟩]):∃ps a b,ks=ps++[a,b]/\lo<=ps.length/\(∀t∈ps,c.is t.kind)/\d.is a.kind/\e.is b.kind:=by
 have:=vE ⟨c,lo,900⟩ [d,e] (ks.map Tre.kind) (by simpa using hl);rw[show (⟨c,lo,900⟩::[d,e].map λc=>(⟨c,1,1⟩:nq))=[⟨c,lo,900⟩,⟨d,1,1⟩,⟨e,1,1⟩] from rfl]at this;rw[this]at h;simp only[cS,dU,List.length_map,jm,nQ]at h;obtain⟨h1,h2,h3⟩:=h;obtain⟨qs,b,rfl⟩:=oE (l:=ks) d6;obtain⟨ps,a,rfl⟩:=oE (l:=qs) (by simp at h1;omega);have e2:(ps++[a]++[b]).length-(0+1+1)=ps.length:=by simp
 rw[e2]at h2 h3;simp only[List.map_append,lG]at h2 h3;rw[List.take_left' d8]at h2;rw[List.drop_left' d8]at h3;have h3:dB ([a,b].map Tre.kind) [⟨d,1,1⟩,⟨e,1,1⟩]:=h3;obtain⟨a',b',e',h3,h4⟩:=P8 h3;simp only[List.cons.injEq,and_true]at e';obtain⟨rfl,rfl⟩:=e';exact⟨ps,a,b,d8,by simp at h1;omega,by simpa using h2,h3,h4⟩
def qW{x:aT}{m a z:Int}{f:iQ}(h:fx ⟨k,x,n,m,a,z⟩ f):(f.text=false->x=[])/\(f.text->x≠[]/\gr x)/\ek n/\ek m/\(f.n=false->n=0)/\(f.m=false->m=0):=by
 simp only[fx,cS,ml,beq_iff_eq]at h;obtain⟨⟨⟨⟨⟨h1,h2⟩,h3⟩,h4⟩,h5⟩,h6⟩:=h;refine⟨λe=>?_,λe=>⟨?_,?_⟩,h3,h4,λe=>?_,λe=>?_⟩
 . rw[e]at h1;simpa using h1.symm
 . rw[e]at h1;simpa using h1.symm
 . rw[e]at h2;simpa using h2
 . rw[e]at h5;simpa using h5
 . rw[e]at h6;simpa using h6
def o5(x:Tx):Prop:=x.2≠[]/\hY x.2=(0,x.1,x.2)
instance (x:Tx):Decidable (o5 x):=inferInstanceAs (Decidable (_/\_))
def aeb:∀w∈j0++fF,o5 (bo w):=by decide
def adm{x:aT}(h:gr x)(h0:x≠[]):o5 (fp x):=⟨h0,of_decide_eq_true h⟩
def P4{n:Nat}(h:n<10):fE (48+n).toUInt8:=by
 have:(48+n).toUInt8.toNat=48+n:=by simp[Nat.toUInt8,UInt8.toNat_ofNat'];omega
 rw[lA];omega
def MK:∀(f n:Nat),(lI f n).all fE
 | 0,n=>rfl
 | f+1,n=>by
   unfold lI;split
   . rename_i h;simp only[List.all_cons,List.all_nil,Bool.and_true];exact P4 h
   . rw[List.all_append,MK f];simp only[List.all_cons,List.all_nil,Bool.and_true,Bool.true_and];exact P4 (Nat.mod_lt _ d7)
def P7:∀(f n:Nat),lI (f+1) n≠[]
 | f,n=>by
   unfold lI;split<;>simp
def JO:∀(f n:Nat),1<=n->n<10 ^ f->(lI f n).head?≠some 48
 | 0,n,h,h'=>by simp at h';omega
 | f+1,n,h,h'=>by
   unfold lI;split
   . rename_i h9;simp only[List.head?_cons,ne_eq,kP];intro e;have e2:(48+n).toUInt8.toNat=48+n:=by simp[Nat.toUInt8,UInt8.toNat_ofNat'];omega
     rw[e]at e2;have:(48:UInt8).toNat=48:=rfl;omega
   . rename_i h9;have ih:=JO f (n / 10) d6 (by rw[Nat.pow_succ]at h';omega);have hn:lI f (n / 10)≠[]:=by
      cases f with
      | zero=>simp at h';omega
      | succ f=>exact P7 f _
     rw[List.head?_append];cases hh:(lI f (n / 10)).head? with
     | none=>exact absurd (List.head?_eq_none_iff.1 hh) hn
     | some c=>rw[hh]at ih;simpa using ih
variable {s:aT}
def ahs(h:s.all fE):s.takeWhile dp=s:=by
 have:∀x∈s,dp x:=λx hx=>by
  have:=fQ.1 h x hx;simp[dp,this]
 clear h
 induction s with
 | nil=>rfl
 | cons c s ih=>rw[om,this c d8,if_pos rfl,ih λx hx=>this x (by simp[hx])]
def R9(h:ek n):o5 (kL n):=by
 have hn:=of_decide_eq_true h;have ak4:(1000000:Nat)<10 ^ 20:=by decide
 have hd:=MK 20 n.toNat;have cD:=P7 19 n.toNat;have hv:=aar h;refine⟨cD,?_⟩;have htw:=ahs hd;obtain⟨c,r,PD⟩:∃c r,lI 20 n.toNat=c::r:=by
  cases e:lI 20 n.toNat with
  | nil=>exact absurd e cD
  | cons c r=>exact⟨c,r,rfl⟩
 show hY (mZ n)=(0,2,mZ n);have hE:mO (mZ n)=0:=by
  unfold mO;rw[if_neg (by unfold mZ;simp[hd]),if_neg ?_,if_neg ?_]
  . have h1:=u6 (mZ n) 0 hd d6;have hle:=Ev (mZ n) 0 d6;show ¬ 1000000<kx 0 (mZ n);have key:∀(s:aT)(a b:Int),s.all fE->0<=b->min b 1000001=a->kx a s=min (oh b s) 1000001:=by
     intro s
     induction s with
     | nil=>intro a b _ _ e;show a=_;rw[<-e];rfl
     | cons c s ih =>
       intro a b hs hb e;simp only[List.all_cons,cS]at hs;have hc:=lA.1 hs.1;exact ih _ (10*b+((c.toNat:Int)-48)) hs.2 d6 (by show min _ _=min (10*a+((c.toNat:Int)-48)) 1000001;omega)
    have:=key (mZ n) 0 0 hd d6 rfl;have hv:oh 0 (mZ n)=n:=hv;rw[this,hv];omega
  . rintro⟨h1,h2⟩
    by_cases h9:n.toNat<10
    . unfold mZ lI at h1;rw[if_pos h9]at h1;simp at h1
    . exact JO 20 n.toNat d6 d6 h2
 unfold hY;simp only;unfold mZ at hE ⊢;rw[htw,PD];rw[PD]at hE;have hc:fE c:=by
  rw[PD]at hd;simp only[List.all_cons,cS]at hd;exact hd.1
 simp only[hc,if_true,hE]
def Qz:∀w∈fF,∃c r,w=c::r/\dp c=false/\c≠62/\c≠32/\c≠10/\c≠126/\(c=61->w=gH):=by
 intro w hw;simp only[fF,dy,List.not_mem_nil,or_false]at hw;rcases hw with rfl|rfl|rfl|rfl|rfl|rfl|rfl|rfl|rfl|rfl|rfl|rfl|rfl|rfl|rfl|rfl<;>exact⟨_,_,rfl,d7,d7,d7,d7,d7,d7⟩
def afX{c:UInt8}(h:dp c):c≠62/\c≠32/\c≠10/\c≠126/\c≠61:=by
 refine⟨?_,?_,?_,?_,?_⟩<;>(rintro rfl;exact absurd h d7)
def N2{x:Tx}(h:o5 x):∃c r,x.2=c::r/\c≠62/\c≠32/\c≠10/\c≠126/\(c=61->x.2=gH)/\(x.1=4->dp c=false/\x.2∈fF)/\(x.1≠4->x.2.all dp/\x.1≠4):=by
 have key:(∃c r,x.2=c::r/\dp c)->x.1≠4->x.2.all dp->∃c r,x.2=c::r/\c≠62/\c≠32/\c≠10/\c≠126/\(c=61->x.2=gH)/\(x.1=4->dp c=false/\x.2∈fF)/\(x.1≠4->x.2.all dp/\x.1≠4):=by
  rintro⟨c,r,e,hc⟩ h4 ha;obtain⟨a1,a2,a3,a4,a5⟩:=afX hc;exact⟨c,r,e,a1,a2,a3,a4,λe=>absurd e a5,λe=>absurd e h4,λ_=>⟨ha,h4⟩⟩
 have kw:∀w∈j0,w.all dp:=by decide
 have first:∀{s:aT},s≠[]->s.all dp->∃c r,s=c::r/\dp c:=by
  intro s h0 h;cases s with
  | nil=>exact absurd rfl h0
  | cons c r=>simp only[List.all_cons,cS]at h;exact⟨c,r,rfl,h.1⟩
 rcases rz h.2 with k|k|k|k
 . exact key (first h.1 k.2.2.2.2) d6 k.2.2.2.2
 . have hd:=(Eu (Ge (by rw[h.2,k.1]) h.1)).1;have ha:x.2.all dp:=by
    rw[fQ]at hd ⊢;intro c hc;simp[dp,hd c hc]
   exact key (first h.1 ha) d6 ha
 . exact key (first h.1 (kw _ k.2)) d6 (kw _ k.2)
 . obtain⟨c,r,e,h1,h2,h3,h4,h5,h6⟩:=Qz _ k.2;exact⟨c,r,e,h2,h3,h4,h5,h6,λ_=>⟨h1,k.2⟩,λh=>absurd k.1 h⟩
def N1{p:UInt8->Bool}:∀{s t:aT},s.all p->(∀c r,t=c::r->p c=false)->(s++t).takeWhile p=s
 | [],[],_,_=>rfl
 | [],c::r,_,h=>by rw[mQ,om,h c r rfl];rfl
 | c::s,t,h,k=>by
   simp only[List.all_cons,cS]at h;rw[ke,om,h.1,if_pos rfl,N1 h.2 k]
variable {t:aT}
def acQ(h0:s≠[])(h:s.all dp)(k:∀c r,t=c::r->dp c=false):hY (s++t)=hY s:=by
 have e1:=N1 h k;have e2:=N1 (t:=[]) h d8;rw[iM]at e2;unfold hY;simp only[e1,e2];cases s with
 | nil=>exact absurd rfl h0
 | cons c s=>rfl
def acS{w:aT}(hw:w∈fF)(h1:w=ef->∀c r,t=c::r->c≠61)(h2:w=oY->∀c r,t=c::r->c≠62):hY (w++t)=(0,4,w):=by
 obtain⟨c,r,e,hc,_⟩:=Qz w hw;have etw:(w++t).takeWhile dp=[]:=by rw[e,ke,om,hc];rfl
 unfold hY;simp only[etw];have hf:fF.find? (λx=>x.isPrefixOf (w++t))=some w:=by
  simp only[fF,dy,List.not_mem_nil,or_false]at hw;rcases hw with rfl|rfl|rfl|rfl|rfl|rfl|rfl|rfl|rfl|rfl|rfl|rfl|rfl|rfl|rfl|rfl
  all_goals first
   | rfl
   | (cases t with
      | nil=>rfl
      | cons c r =>
        have e2:((62:UInt8)==c)=false:=by simp[Ne.symm (h2 rfl c r rfl)]
        simp[fF,List.find?,List.isPrefixOf,bY,gn,gH,pX,pW,oY,e2])
   | (cases t with
      | nil=>rfl
      | cons c r =>
        have e2:((61:UInt8)==c)=false:=by simp[Ne.symm (h1 rfl c r rfl)]
        simp[fF,List.find?,List.isPrefixOf,bY,gn,gH,pX,pW,oY,qO,ni,dM,dE,qP,sX,ep,dF,ef,e2])
 rw[hf]
def Beh(a:Tx)(t:aT):Prop:=(a.1≠4->∀c r,t=c::r->dp c=false)/\(a.2=ef->∀c r,t=c::r->c≠61)/\∀c r,t=c::r->c≠62
def acR{a:Tx}(h:o5 a)(k:Beh a t):hY (a.2++t)=(0,a.1,a.2):=by
 obtain⟨c,r,e,_,_,_,_,_,h4,hn⟩:=N2 h
 by_cases h':a.1=4
 . rw[acS (h4 h').2 k.2.1 λ_=>k.2.2,h']
 . rw[acQ h.1 (hn h').1 (k.1 h'),h.2]
def Ta{a:Tx}{c:UInt8}(h:c=32\/c=10):Beh a (c::t):=by
 refine⟨λ_ c' r e=>?_,λ_ c' r e=>?_,λc' r e=>?_⟩
 all_goals
  obtain⟨rfl,_⟩:=List.cons.inj e;rcases h with rfl|rfl<;>decide
def aeo{a:Tx}:Beh a []:=⟨λ_ c r e=>(nomatch e),λ_ c r e=>(nomatch e),λc r e=>(nomatch e)⟩
def HI{a b:Tx}{l:List Tx}:gE (a::b::l)=a.2++(if p5 a b then [32] else [])++gE (b::l):=rfl
variable {p:Nat}
def MS{f:Nat}{acc:List Tk}{a:Tx}(h:o5 a)(hs:s.drop p=a.2++t)(hb:Beh a t):iy (f+1) s p acc=if acc.length=900 then .bad p 5 else iy f s (p+a.2.length) (acc++[⟨a.1,a.2,p⟩]):=by
 obtain⟨c,r,e,_,h32,n0,C4,_⟩:=N2 h;have ht:=acR h hb;rw[e]at hs ht;rw[iy,hs];rw[ke]at ht ⊢;have n32:c.toNat≠32:=λe=>h32 (UInt8.toNat_inj.1 e);have n10:c.toNat≠10:=λe=>n0 (UInt8.toNat_inj.1 e);have n126:c.toNat≠126:=λe=>C4 (UInt8.toNat_inj.1 e);simp only[n32,n10,n126,or_self,if_false,ht,ne_eq,not_true];rw[e]
def UN{f:Nat}{acc:List Tk}{c:UInt8}(hs:s.drop p=c::t)(hc:c=32\/c=10):iy (f+1) s p acc=iy f s (p+1) acc:=by
 rw[iy,hs];rcases hc with rfl|rfl<;>rfl
def LH(h:s.drop p=t)(h0:t≠[]):p+t.length=s.length:=by
 have:=congrArg List.length h;have:0<t.length:=List.length_pos_iff.2 h0;simp at *;omega
def LG{a:aT}(h:s.drop p=a++t):s.drop (p+a.length)=t:=by rw[<-List.drop_drop,h,List.drop_left]
def Ga{w:aT}{x:Tx}:∀{ls:List (List Tx)},x∈eH w ls->x=bo w\/∃l∈ls,x∈l
 | [],h=>by simp[eH]at h
 | [l],h=>.inr ⟨l,d8,h⟩
 | l::m::ls,h=>by
   rw[eH,gV,dy]at h;rcases h with h|h|h
   . exact .inr ⟨l,d8,h⟩
   . exact .inl h
   . rcases Ga h with h|⟨k,h1,h2⟩
     . exact .inl h
     . exact .inr ⟨k,List.mem_cons_of_mem _ h1,h2⟩
def Pm{n:Nat}{l:List Tx}{x:Tx}(h:x∈dY k n l):x=bo dM\/x=bo dE\/x∈l:=by
 unfold dY at h;split at h
 . exact .inr (.inr h)
 . simp only[ke,dy,gV,List.not_mem_nil,or_false]at h;rcases h with h|h|h
   . exact .inl h
   . exact .inr (.inr h)
   . exact .inr (.inl h)
def aeJ{c:Prop}[Decidable c]{x:Tx}{A B:List Tx}{G:Prop}(h:x∈if c then A else B)(h1:c->x∈A->G)(h2:¬ c->x∈B->G):G:=by
 split at h
 . exact h1 ‹_› h
 . exact h2 ‹_› h
def Vf{P:Tx->Prop}{k:Int}{t:aT}{n m:Int}{ks:List (Int×List Tx)}{f:iQ}(hf:bS k=some f)(hw:∀w∈j0++fF,P (bo w))(ht:f.text->P (fp t))(hn:P (kL n))(hm:P (kL m))(hk:∀y∈ks,∀x∈y.2,P x):∀x∈c8 k t n m ks,P x:=by
 have hg:∀i,∀x∈(ks.getD i (0,[])).2,P x:=by
  intro i x hx;rw[pq]at hx;cases h:ks[i]? with
  | none=>rw[h]at hx;simp at hx
  | some y=>rw[h]at hx;exact hk y (fT h) x hx
 have hb:∀least i,∀x∈dY (ks.getD i (0,[])).1 least (ks.getD i (0,[])).2,P x:=by
  intro least i x hx;rcases Pm hx with rfl|rfl|h
  . exact hw _ d7
  . exact hw _ d7
  . exact hg i x h
 have hs:∀w∈j0++fF,∀j,∀x∈eH w ((ks.map (·.2)).take j),P x:=by
  intro w Un j x hx;rcases Ga hx with rfl|⟨l,h1,h2⟩
  . exact hw _ Un
  . obtain⟨y,hy,rfl⟩:=List.mem_map.1 (List.mem_of_mem_take h1);exact hk y hy x h2
 have fj:∀w∈j0++fF,∀x∈eH w (ks.map (·.2)),P x:=by
  intro w Un x hx;exact hs w Un ks.length x (by rw[pO d8];exact hx)
 have hq:∀x∈eH dF (ks.map λx=>dY x.1 1 x.2),P x:=by
  intro x hx;rcases Ga hx with rfl|⟨l,h1,h2⟩
  . exact hw _ d7
  . obtain⟨y,hy,rfl⟩:=List.mem_map.1 h1;rcases Pm h2 with rfl|rfl|h
    . exact hw _ d7
    . exact hw _ d7
    . exact hk y hy x h
 have ajQ:∀k,P (bo (sa k)):=by
  intro k;unfold sa
  repeat' split
  all_goals exact hw _ d7
 have Mc:∀c:Prop,[Decidable c]->P (bo (if c then jc else eW)):=by
  intro c _;split<;>exact hw _ d7
 intro x hx;have W:∀w∈j0++fF,x=bo w->P x:=λw Un e=>e▸hw w Un;have key:(∀j,x∈(ks.getD j (0,[])).2->P x)/\(∀l j,x∈dY (ks.getD j (0,[])).1 l (ks.getD j (0,[])).2->P x):=⟨λj=>hg j x,λl j=>hb l j x⟩;unfold c8 at hx;simp only at hx;have mT:(k=2\/k=3\/k=4\/k=5\/k=12\/k=13\/k=14\/k=16\/k=31\/k=32\/k=33\/k=37\/k=34)->P (fp t):=by
  intro h;apply ht;rcases h with rfl|rfl|rfl|rfl|rfl|rfl|rfl|rfl|rfl|rfl|rfl|rfl|rfl<;>(simp[bS]at hf;rw[<-hf])
 repeat' (refine aeJ hx (λc hx=>?_) (λc hx=>?_))
 all_goals try simp only[ke,lG,dy,gV,List.not_mem_nil,or_false,false_or]at hx
 all_goals try exact hx.elim
 all_goals repeat' (refine Or.elim hx (λhx=>?_) (λhx=>?_))
 all_goals first
  | (subst hx;first|exact hw _ d7|exact hn|exact hm|exact ajQ _|exact Mc _|exact mT d6)
  | exact hg _ _ hx
  | exact hb _ _ _ hx
  | exact hs _ d7 _ _ hx
  | exact fj _ d7 _ hx
  | exact hq _ hx
def Sg:∀(N:Nat)(t:Tre),t.flat.length<=N->t.ok->∀x∈t.pr,o5 x
 | 0,t,hN,_=>by have:=t.eC;omega
 | N+1,.mk k tx n m a ks,hN,ho=>by
   obtain⟨fo,gY,h1,h2,h3⟩:=Tre.BN ho;have hlen:(Tre.cH ks).length+1=(Tre.mk k tx n m a ks).flat.length:=by rw[Tre.gQ];simp
   obtain⟨f1,f2,f3,f4,f5,f6⟩:=qW h1;rw[Tre.ee];refine Vf gY aeb (λe=>adm (f2 e).2 (f2 e).1) (R9 f3) (R9 f4) λy hy=>?_;obtain⟨t,ht,rfl⟩:=List.mem_map.1 hy;have:=Tre.Dk ht;exact Sg N t d6 (h3 t ht)
def kr:List Tre->aT->aT×Int
 | [],acc=>if 2500<acc.length then ([],5) else (acc,0)
 | t::ts,acc=>if (eU t.pr).2≠0 then ([],(eU t.pr).2) else kr ts (acc++(eU t.pr).1++[10])
def pT(t:Tre):aT×Int:=if t.kind≠1 then eU t.pr else kr t.kids []
def Kv{l:List Tx}(h:(eU l).2=0):(eU l).1=gE l/\l.length<=900/\(gE l).length<=2500:=by
 unfold eU at h ⊢;split at h
 . cases h
 . rename_i h1;split at h
   . cases h
   . rename_i h2;rw[if_neg h1,if_neg h2];exact⟨rfl,d6,d6⟩
def ZW{x:Tx}(h:o5 x):∀c∈x.2,kO c:=by
 have aln:∀c,dp c->kO c:=by
  intro c hc;simp only[dp,fE,lY,BC,kO,ml,dU]at hc ⊢;omega
 obtain⟨c,r,e,_,_,_,_,_,h4,hn⟩:=N2 h
 by_cases h':x.1=4
 . have key:∀w∈fF,∀c∈w,kO c:=by decide
   exact key _ (h4 h').2
 . intro c hc;exact aln c (fQ.1 (hn h').1 c hc)
end Go.Rip
