import Derived.Test.YtnfpmiiopiinbaaGreatDoorYh
set_option linter.all false
namespace Go.Rip
open Go.Proofs Go.RowKit
variable {x:Tx}
def vp(h:o5 x):x.2.length<=12:=by
 have key:∀w∈j0++fF,w.length<=12:=by decide
 rcases rz h.2 with k|k|k|k
 . exact k.2.2.1
 . have:=zd h.1 (Ge (by rw[h.2,k.1]) h.1);omega
 . exact key _ (List.mem_append_left _ k.2)
 . exact key _ (List.mem_append_right _ k.2)
def CS(s:aT):List AV:=s.map λc=>co c.toNat
def Fz(U aa:St):Prop:=∀c x,U.live c=some x->(∀t,x=.tok t->t.e≠51)->aa.live c=some x
def I0(b:Nat)(U aa:St):Prop:=∀c x,c≠b->U.live c=some x->(∀t,x≠.tok t)->aa.live c=some x
variable {K' Kp:am}
section
variable {b c:Nat}{U aj aK aa:St}{s t:aT}{R:bi}
def Fz.trans(h:Fz U aK)(k:Fz aK aa):Fz U aa:=λc x e t=>k c x (h c x e t) t
def Fz.mV(h:dt U aa):Fz U aa:=λc x e _=>h c x e
def Fz.fr(h:Fz U aa):I0 b U aa:=λc x _ e t=>h c x e λt' e'=>absurd e' (t t')
def I0.bq(h:I0 b U aa)(n:c≠b){y:List AV}(k:U.box c=some y):aa.box c=some y:=by
 cases e:U.live c with
 | none=>simp[St.box,e]at k
 | some x =>
   rw[eE ((h c x n e ?_).trans e.symm)];exact k;intro t ht;subst ht;simp[St.box,e]at k
def I0.loop(h:I0 b U aa)(n:c≠b){L:iu}(k:U.loop c=some L):aa.loop c=some L:=by
 cases e:U.live c with
 | none=>simp[St.loop,e]at k
 | some x =>
   rw[iX ((h c x n e ?_).trans e.symm)];exact k;intro t ht;subst ht;simp[St.loop,e]at k
def Fz.bq(h:Fz U aa){y:List AV}(k:U.box c=some y):aa.box c=some y:=(h.fr (b:=c+1)).bq d6 k
def Fz.loop(h:Fz U aa){L:iu}(k:U.loop c=some L):aa.loop c=some L:=(h.fr (b:=c+1)).loop d6 k
def Fz.tok(h:Fz U aa){t:Tok}(ht:t.e≠51)(k:U.tok c=some t):aa.tok c=some t:=by
 cases e:U.live c with
 | none=>simp[St.tok,e]at k
 | some x =>
   rw[nA ((h c x e ?_).trans e.symm)];exact k;intro t' qJ;subst qJ;simp[St.tok,e]at k;subst k;exact ht
def NK(aj:St)(c:Nat):Prop:=∀x,aj.live c=some x->∃t,x=.tok t/\t.e=51
def NK.of(h:aj.live c=none):NK aj c:=λx e=>by rw[h]at e;cases e
def Fz.nk(h:Fz aj U)(k:U.live c=none):NK aj c:=λx e=>by
 refine Classical.not_not.1 λhn=>?_;have:=h c x e λt ht e51=>hn ⟨t,ht,e51⟩;rw[k]at this;cases this
def NK.ne{d:Nat}{x:Live}(h:NK aj c)(e:aj.live d=some x)(ht:∀t,x=.tok t->t.e≠51):d≠c:=by
 rintro rfl;obtain⟨t,h1,h2⟩:=h x e;exact ht t h1 h2
def Fz.kg{aV:St}(h:Fz aj U)(n:NK aj c)(hs:∀d,d≠c->aV.live d=U.live d):Fz aj aV:=λd x e ht=>by
 rw[hs d (n.ne e ht)];exact h d x e ht
structure Bu (aj U:St) (b:Nat) (s:aT):Prop where
 at_:(s=[]/\(U.live b=some (.wV 158 [.bE,.af])\/U.box b=some [.box b 0,.af]))\/(s≠[]/\∃τ,U.box b=some [.box b 0,.vec s.length (.own τ) (CS s)]/\U.tok τ=some ⟨s.length,5,1⟩/\NK aj τ)
 new:NK aj b
 fz:Fz aj U
def Bu.mono(h:Bu aj U b s)(e:Fz U aa):Bu aj aa b s:=by
 refine⟨?_,h.new,h.fz.trans e⟩;rcases h.at_ with ⟨h0,h|h⟩|⟨h0,τ,h,k,k2⟩
 . exact .inl ⟨h0,.inl (e _ _ h λt e=>by cases e)⟩
 . exact .inl ⟨h0,.inr (e.bq h)⟩
 . exact .inr ⟨h0,τ,e.bq h,e.tok (show (5:Nat)≠51 by decide) k,k2⟩
def Bu.kg{o:Nat}{z:iu}{aV:St}(h:Bu aj U b s)(hn:NK aj o)(ho:U.loop o=some z)(hs:∀c,c≠o->aV.live c=U.live c):Bu aj aV b s:=by
 have hbo:b≠o:=by
  rintro rfl;rcases h.at_ with ⟨_,h|h⟩|⟨_,τ,h,_⟩
  . unfold St.loop at ho;rw[h]at ho;cases ho
  . exact cQ h ho rfl
  . exact cQ h ho rfl
 refine⟨?_,h.new,h.fz.kg hn hs⟩;rcases h.at_ with ⟨h0,h|h⟩|⟨h0,τ,h,k,k2⟩
 . exact .inl ⟨h0,.inl (by rw[hs b hbo];exact h)⟩
 . exact .inl ⟨h0,.inr (by rw[eE (hs b hbo)];exact h)⟩
 . exact .inr ⟨h0,τ,by rw[eE (hs b hbo)];exact h,by rw[nA (hs τ (vQ k ho))];exact k,k2⟩
def NKv(aj:St)(v:AV):Prop:=∀n τ l,v=.vec n (.own τ) l->NK aj τ
def Lu(h:Bu aj U b s)(hk:∀aa v,(∀c,c≠b->aa.live c=U.live c)->aa.box b=some [.box b 0,v]->Grow aa v 5 1 s.length (CS s)->(s.length=0->v=.af)->NKv aj v->Fz aj aa->K' (.az []) aa):ag K 190 [.box b 0] U (bD K' Kp):=by
 rcases h.at_ with ⟨h0,h'|h'⟩|⟨h0,τ,h',k,k2⟩
 . subst h0;exact yM h' (hk _ _ (λc hc=>oC hc) aZ (.inl ⟨rfl,rfl,rfl⟩) (λ_=>rfl) (λ_ _ _ e=>by cases e) (h.fz.kg h.new λc hc=>oC hc))
 . subst h0;exact uQ h' (hk U _ (λc _=>rfl) h' (.inl ⟨rfl,rfl,rfl⟩) (λ_=>rfl) (λ_ _ _ e=>by cases e) h.fz)
 . refine uQ h' (hk U _ (λc _=>rfl) h' (.inr ⟨τ,rfl,k,by simp[CS]⟩) (λe=>absurd (ti.1 e) h0) (λ_ _ _ e=>?_) h.fz);simp only[AV.vec.injEq,nj.own.injEq]at e;rw[<-e.2.1];exact k2
def Ti{y v:AV}{K':am}{Kp:am}(ht:t≠[])(hy:qD U y=some (t.length,CS t))(hb:U.box b=some [.box b 0,v])(hg:Grow U v 5 1 s.length (CS s))(h0:s.length=0->v=.af)(hl:s.length+t.length<=4294967296)(hn:NKv aj v)(hf:Fz aj U)
 (hk:∀aK v',Grow aK v' 5 1 (s++t).length (CS (s++t))->aK.box b=some [.box b 0,v]->(∀c x,U.live c=some x->(∀t,x≠.tok t)->aK.live c=some x)->NKv aj v'->Fz aj aK->K' v' aK):(dH (some (5,1)) false v y U).wp K U K' Kp:=by
 have ub:0<t.length:=List.length_pos_iff.2 ht;refine Ce hg hy (by simp[CS]) ub hl h0 λaK v' g e1 n1=>?_;have qH:∀c x,U.live c=some x->(∀t,x≠.tok t)->aK.live c=some x:=λc x hx Cs=>e1 c x (λn l hv=>by
  rcases hg with ⟨_,_,g⟩|⟨τ,g,qJ,_⟩
  . rw[g]at hv;cases hv
  . rw[g]at hv;cases hv;unfold St.tok at qJ;rw[hx]at qJ;split at qJ
    . rename_i t' e';cases e';exact Cs _ rfl
    . cases qJ) hx
 refine hk aK v' (by rw[dx];simpa [CS] using g) ((ly hg e1).1 hb) qH (λn τ l hv=>?_) λc x hx Cs=>?_
 . rcases n1 n τ l hv with hz|⟨n2,l2,Fc⟩
   . exact hf.nk hz
   . exact hn _ _ _ Fc
 . exact e1 c x (λn l hv=>(hn _ _ _ hv).ne hx Cs rfl) (hf c x hx Cs)
def Lv{v v':AV}(hs:s≠[])(hb:U.box b=some [.box b 0,v])(g:Grow U v' 5 1 s.length (CS s))(hn:NKv aj v')(PK:NK aj b)(hf:Fz aj U)(hk:∀aK,Bu aj aK b s->(∀c,c≠b->aK.live c=U.live c)->K' (.az []) aK):(dD (some (false,1)) (.box b 1) v' U).wp K U K' Kp:=by
 rcases g with ⟨h0,_,_⟩|⟨τ,rfl,r2,r3⟩
 . exact absurd (ti.1 h0) hs
 rw[cV hb];have pc:∀c,c≠b->(U.set b (.box (ax [.box b 0,v] 1 (al (.vec s.length (.own τ) (CS s)))))).live c=U.live c:=λc hc=>by rw[eM,if_neg hc]
 exact⟨⟨rfl,rfl,d8⟩,hk _ ⟨.inr ⟨hs,τ,by rw[aZ];rfl,by rw[jk (fY hb r2).symm];exact r2,hn _ _ _ rfl⟩,PK,hf.kg PK pc⟩ pc⟩
def afE(t:aT):qD U (.str t)=some (t.length,CS t):=rfl
def Jb(ht:t≠[])(h:Bu aj U b s)(hl:s.length+t.length<=100000000)(hk:∀y aa,Bu aj aa b (s++t)->I0 b U aa->K' y aa):ag K 125 [.box b 0,.str t] U (bD K' Kp):=by
 refine Wx ?_;dsimp only[Ww,ae,bg,ah,cw,cG,ej,cn,aC];refine Lu h λaK v pc hb hg h0 hn hf=>?_;simp only[bL,ad];refine gw (dN hb rfl ?_);refine Ti ht (afE t) hb hg h0 d6 hn hf λaV v' g2 iq iN wR mD=>gw ?_;refine Lv (s:=s++t) (by simp[ht]) iq g2 wR h.new mD λbG h3 aa1=>?_;show (dK (some true) (AV.str t)).wp K bG _ _;rw[show dK (some true) (AV.str t)=.val (bv t.length) from rfl,ad];refine aq.mk (hk _ _ h3 λc x hc hx Cs=>?_);rw[aa1 c hc];exact iN c x (by rw[pc c hc];exact hx) Cs
def aes{c:UInt8}(h:Bu aj U b s)(hl:s.length<=100000)(hk:∀y aa,Bu aj aa b (s++[c])->I0 b U aa->K' y aa):ag K 189 [.box b 0,co c.toNat] U (bD K' Kp):=by
 refine Yf ?_;dsimp only[Ye,ae,bg,ah,cw,cG,ej,cn,aC];refine Lu h λaK v pc hb hg h0 hn hf=>?_;simp only[bL,ad];refine gw (dN hb rfl ?_);refine EI rfl rfl ?_;refine Ti (t:=[c]) d8 rfl hb hg h0 (by simp;omega) hn hf λaV v' g2 iq iN wR mD=>gw ?_;refine Lv (s:=s++[c]) d8 iq g2 wR h.new mD λbG h3 aa1=>?_;refine aq.mk (hk _ _ h3 λc x hc hx Cs=>?_);rw[aa1 c hc];exact iN c x (by rw[pc c hc];exact hx) Cs
def Tg(h:Bu aj U b s)(hk:K' (bv s.length) U):ag K 126 [.box b 0] U (bD K' Kp):=by
 refine Wz ?_;dsimp only[Wy,bg,ah,cJ,cG];simp only[bL,ad];rcases h.at_ with ⟨h0,h'⟩|⟨h0,τ,h',k,_⟩
 . subst h0;obtain⟨x,hx⟩:∃x,U.box b=some [x,.af]:=by
    rcases h' with h|h
    . exact⟨.bE,by simp[St.box,h]⟩
    . exact⟨_,h⟩
   refine gw (dN hx rfl ?_);exact aq.mk hk
 . refine gw (dN h' rfl ?_);exact aq.mk hk
def Th(h:Bu aj U b s)(hk:∀aa,I0 b U aa->Fz aj aa->K' (.str s) aa):ag K 127 [.box b 0] U (bD K' Kp):=by
 rcases h.at_ with ⟨h0,h'⟩|⟨h0,τ,h',k,k2⟩
 . subst h0;obtain⟨x,hx⟩:∃x,U.box b=some [x,.af]:=by
    rcases h' with h|h
    . exact⟨.bE,by simp[St.box,h]⟩
    . exact⟨_,h⟩
   exact vX hx (hk U (λc x _ hx _=>hx) h.fz)
 . refine Ad h0 h' k (hk _ (λc x _ hx Cs=>?_) (h.fz.kg k2 λc hc=>by rw[jv,if_neg hc]));rw[jv,if_neg]
   . exact hx
   . rintro rfl;unfold St.tok at k;rw[hx]at k;split at k
     . rename_i t' e';cases e';exact Cs _ rfl
     . cases k
end
def N3(h:o5 x):Pure K 156 [.agg (mx x)] (.bool true):=by
 have hs:=vp h;refine Pure.of rfl rfl (λU=>rfl) λR hR=>?_;refine Xn ?_;dsimp only[Xm,fR,qk,ae,bg,ah,ar,dI,bX,dm,dr,dA];rw[fg rfl];intro b1 gz;have m1:((cj ⟨.e,0⟩).new b1 (.box (al (.agg (mx x))))).box b1=some (mx x):=aH;generalize (cj _).new b1 _=aj at *;refine gw (dN m1 rfl ((GG x.2 d6).go ?_));rw[h.2];simp only[NX,bN,List.drop,bI];rw[dh];intro b3 kF;have m3:(aj.new b3 (.box [co 0,AV.str [],bv 0])).box b3=some [co 0,AV.str [],bv 0]:=aH;have n13:=kF.cA m1;have m1:=(bK kF (x:=.box [co 0,AV.str [],bv 0])).bq m1;generalize aj.new b3 _=aK at *;rw[cV m3];refine⟨⟨rfl,rfl,d8⟩,?_⟩;have m3:(aK.set b3 (.box (ax [co 0,AV.str [],bv 0] 0 (al (.agg [co x.1,.str x.2,bv 0]))))).box b3=some (mx x):=by rw[aZ];rfl
 have m1:(aK.set b3 (.box (ax [co 0,AV.str [],bv 0] 0 (al (.agg [co x.1,.str x.2,bv 0]))))).box b1=some (mx x):=by rw[bf n13];exact m1
 generalize aK.set b3 _=aV at *;simp only[aN,ad,cC,aF,eG,aw,bO];refine j9 (eQ m3 rfl (j9 (eQ m1 rfl ?_)));simp only[aN,ao,cC,av,if_true,ad,aF,eG,aw,bO];refine j9 (eQ m3 rfl (j9 (eQ m1 rfl ?_)));simp only[hU,ao,cC,av,if_true,ad];exact aq.mk (hR _)
def QX(a b:Tx):Pure K 188 [.agg (mx a),.agg (mx b)] (.bool (p5 a b)):=by
 refine Pure.of rfl rfl (λU=>rfl) λR hR=>?_;refine Yd ?_;dsimp only[Yc,fR,eh,bg,ak,ah,ar,dI,bX];rw[fg rfl];intro b2 iq;have m2:((cj ⟨.e,0⟩).new b2 (.box (al (.agg (mx a))))).box b2=some (mx a):=aH;generalize (cj _).new b2 _=aj at *;rw[fg rfl];intro b3 kF;have m3:(aj.new b3 (.box (al (.agg (mx b))))).box b3=some (mx b):=aH;have m2:=(bK kF (x:=.box (al (.agg (mx b))))).bq m2;generalize aj.new b3 _=aK at *;have e1:∀n:Nat,decide ((n:Int)=4)=(n==4):=λn=>by
  rw[oN,dU,beq_iff_eq];omega
 refine gw (dN m2 rfl ?_);rw[ck,ad,e1];have we:=hR;unfold p5 at we;have rest:(a.1 != 4&&b.1 != 4)=false->(bu (some 1) (.box b2 0)).wp K aK (λsb U =>
  (bj (some (false,1)) sb U).wp K U (λD5 U =>
  (bU .eql (BT.mk false false false none false) true D5 (AV.str ef)).wp K U (λnT U =>
  aI K (cq nT true) (bu (some 1) (.box b3 0)) (λzn =>
  aI K (cq nT true) (bj (some (false,1)) zn U) (λzo =>
  aI K (cq nT true) (bU .eql (BT.mk false false false none false) true zo (AV.str gH)) (λrB =>
  (fP nT rB (AV.bool false)).wp K U (λv20 U =>
  aq R v20 U) (aD R))))) (aD R)) (aD R)) (aD R):=by
  intro h0;rw[h0,Bool.false_or]at we;have e2:∀s t:aT,decide (s=t)=(s==t):=λs t=>by
   by_cases h:s=t<;>simp[h]
  refine gw (dN m2 rfl ?_);rw[hU,ad,e2];cases h1:(a.2==ef) with
  | true =>
    simp only[aF,eG,aw,bO];refine j9 (eQ m3 rfl ?_);rw[hU,ao,e2];simp only[av,if_true,ad];rw[h1,Bool.true_and]at we;exact aq.mk (we _)
  | false =>
    simp only[aF,show (false==true)=false from rfl,aw,bB,av,bW,if_false,ad];rw[h1,Bool.false_and]at we;exact aq.mk (we _)
 cases h1:(a.1==4) with
 | true =>
   simp only[cL,aF,show (false==true)=false from rfl,aw,bB,av,bW,if_false,ad];exact cz (rest (by simp only[bne,h1,cL,Bool.false_and]))
 | false =>
   simp only[dS,aF,eG,aw,bO];refine j9 (eQ m3 rfl ?_);rw[ck,ao,e1];simp only[av,if_true,ad];cases h2:(b.1==4) with
   | true=>exact cz (rest (by simp only[bne,h1,h2,cL,dS,Bool.and_false]))
   | false =>
     refine cO (aq.mk ?_);have:(a.1 != 4&&b.1 != 4):=by simp only[bne,h1,h2,dS,Bool.and_self]
     rw[this,Bool.true_or]at we;exact we _
section
variable {U aa:St}{vl:AV}{l:List Tx}{R:bi}
def ZX(l:List Tx)(i:Nat):(pU l).drop (i*3)=pU (l.drop i):=by
 induction l generalizing i with
 | nil=>simp[pU]
 | cons t l ih =>
   cases i with
   | zero=>simp
   | succ i =>
     rw[Nat.add_mul,show i*3+1*3=3+i*3 by omega,<-List.drop_drop,List.drop_succ_cons,<-ih];rfl
def QI{i:Nat}(h:l[i]?=some x):∃r,(pU l).drop (i*3)=mx x++r:=by
 rw[ZX,gI (dw.1 h).1];refine⟨pU (l.drop (i+1)),?_⟩;have:=(dw.1 h).2;simp[pU,this]
def ahy{i:Nat}{Kp:am}(hv:dz vl l.length (pU l))(hx:l[i]?=some x)(hk:K' (.agg (mx x)) U) :
 (bJ (some (51,3)) none vl (bv (i:Nat))).wp K U (λp U=>(bj (some (true,3)) p U).wp K U K' Kp) Kp:=by
 have aA:=(dw.1 hx).1;obtain⟨r,hr⟩:=QI hx;rcases hv with ⟨h1,_,_⟩|⟨c,rfl⟩
 . omega
 . rw[sv,ez,hr];refine⟨d6,?_⟩;rw[tP];exact⟨by simp[mx],hk⟩
def akl{i:Nat}{k:AV->Prop}(hv:dz vl l.length (pU l))(hx:l[i]?=some x)(hk:k (.agg (mx x))) :
 bC K (bJ (some (51,3)) none vl (bv (i:Nat))) λp=>bC K (bj (some (true,3)) p U) k:=by
 have aA:=(dw.1 hx).1;obtain⟨r,hr⟩:=QI hx;rcases hv with ⟨h1,_,_⟩|⟨c,rfl⟩
 . omega
 . rw[Nk,ez,hr];refine⟨d6,?_⟩;rw[IF];exact⟨by simp[mx],hk⟩
def afI(hv:dz vl l.length (pU l))(ho:∀x∈l,o5 x)(hl:l.length<=1000000)(h:∀aa,dt U aa->R (.ret (bv (if 900<l.length then 5 else 0))) aa):ag K 93 [vl] U R:=by
 refine acz ?_;dsimp only[ad1,ae,ak,fU,aQ,ah,dj,ar,ca,eN,cJ,fW,dr,dA];rw[hv.len,ad,dq,ad];refine df (λh9=>?_) λh9=>?_
 . rw[if_pos d6]at h;exact aq.mk (h _ (dt.refl U))
 rw[if_neg d6]at h;rw[ad];refine⟨λm w8 w9 KD aa=>∃i:Nat,m=l.length-i/\i<=l.length/\w8=vl/\w9=bv l.length/\KD=bv (i:Nat)/\dt U aa,⟨_,0,rfl,d6,rfl,rfl,rfl,dt.refl U⟩,?_⟩;rintro m w8 w9 KD aK ⟨i,rfl,hi,rfl,rfl,rfl,e1⟩;rw[aY,ad];refine df (λaA=>?_) λgL=>aq.mk (h _ e1);have aA:i<l.length:=by omega
 obtain⟨x,hx⟩:∃x,l[i]?=some x:=⟨l[i],by simp[aA]⟩;refine ahy hv hx ?_;rw[dh];intro b4 kG;have m4:(aK.new b4 (.box [co 0,AV.str [],bv 0])).box b4=some [co 0,AV.str [],bv 0]:=aH;have e2:=e1.new kG (x:=.box [co 0,AV.str [],bv 0]);have f4:=e1.fresh kG.1;generalize aK.new b4 _=aV at *;rw[cV m4];refine⟨⟨rfl,rfl,by simp[mx]⟩,?_⟩;have m4:(aV.set b4 (.box (ax [co 0,AV.str [],bv 0] 0 (al (.agg (mx x)))))).box b4=some (mx x):=by rw[aZ];rfl
 have e3:=e2.set f4 (x:=.box (ax [co 0,AV.str [],bv 0] 0 (al (.agg (mx x)))));generalize aV.set b4 _=bG at *;rw[mK m4];refine⟨by simp[mx],(N3 (ho x (fT hx))).go ?_⟩;simp only[db,ad,cL];refine cz ?_;rw[cF];exact⟨aX d6 d6,l.length-(i+1),d6,i+1,rfl,d6,rfl,rfl,d8,e3⟩
def Ca:∀(l:List Tx)(a b:Tx),gE (l++[a,b])=gE (l++[a])++(if p5 a b then [32] else [])++b.2
 | [],a,b=>by simp[gE]
 | [c],a,b=>by simp[gE]
 | c::d::l,a,b=>by
   have:=Ca (d::l) a b;simp only[ke,HI]at this ⊢;rw[this];simp
def D4:∀(l:List Tx),(∀x∈l,o5 x)->(gE l).length<=13*l.length
 | [],_=>by simp[gE]
 | [a],h=>by have:=vp (h a d8);simp[gE];omega
 | a::b::l,h=>by
   have h1:=vp (h a d8);have h2:=D4 (b::l) λx hx=>h x (by simp only[dy]at hx ⊢;exact .inr hx);rw[HI,dx,dx];have:(if p5 a b=true then [(32:UInt8)] else []).length<=1:=by split<;>simp
   simp only[jm]at h2 ⊢;omega
end
section
variable {U aa:St}{vl:AV}{l:List Tx}{R:bi}
def acN(hv:dz vl l.length (pU l))(ho:∀x∈l,o5 x)(hl:l.length<=1000000)(h:∀aa,Fz U aa->R (.ret (.az [.str (eU l).1,bv (eU l).2])) aa):ag K 124 [vl] U R:=by
 refine Wv ?_;dsimp only[Wu,QP,eh,lM,se,cU,ae,bg,ak,Eb,oR,aQ,ah,dj,ar,ca,eN,cJ,aC,dr,dA,kT,qm];refine afI hv ho hl λaK e1=>?_;rw[bh,ck,ad]
 by_cases h9:900<l.length
 . have hE:eU l=([],5):=by unfold eU;rw[if_pos h9]
   rw[if_pos h9];simp only[show decide ((5:Int)=0)=false from rfl,dS];refine cO (aq.mk ?_);rw[hE]at h;exact h _ (.mV e1)
 rw[if_neg h9];simp only[cC,cL];refine cz ?_;rw[my];intro b5 kZ;rw[show NV.at b5 .box=AV.box b5 0 from rfl];have hB:Bu aK (aK.new b5 (.wV 158 [.bE,.af])) b5 []:=⟨.inl ⟨rfl,.inl (by rw[oK,if_pos rfl])⟩,.of kZ.1,.mV (bK kZ)⟩;generalize aK.new b5 _=aV at *;rw[hv.len,ad];have ub:∀i,(gE (l.take i)).length<=13*l.length:=λi=>by
  have:=D4 (l.take i) λx hx=>ho x (List.mem_of_mem_take hx);rw[List.length_take]at this;omega
 refine⟨λm w0 w5 KE w14 w15 aa=>∃i:Nat,m=l.length-i/\i<=l.length/\vl=w0/\w5=.box b5 0/\vl=KE/\w14=bv l.length/\w15=bv (i:Nat)/\Bu aK aa b5 (gE (l.take i)),⟨_,0,rfl,d6,rfl,rfl,rfl,rfl,rfl,by simpa [gE] using hB⟩,?_⟩;clear hB;rintro m w0 w5 KE w14 w15 bG ⟨i,rfl,hi,rfl,rfl,rfl,rfl,rfl,hB⟩;rw[aY,ad];refine df (λaA=>?_) λgL=>?_
 . have aA:i<l.length:=by omega
   obtain⟨x,hx⟩:∃x,l[i]?=some x:=⟨l[i],by simp[aA]⟩;have JE:=ho x (fT hx);refine ahy hv hx ?_;rw[dh];intro b7 oT;have m7:(bG.new b7 (.box [co 0,AV.str [],bv 0])).box b7=some [co 0,AV.str [],bv 0]:=aH;have f7:=hB.fz.nk oT.1;have hB2:=hB.mono (.mV (bK oT (x:=.box [co 0,AV.str [],bv 0])));have n75:b7≠b5:=by
    rintro rfl;rcases hB.at_ with ⟨_,h'|h'⟩|⟨_,τ,h',_⟩
    . rw[oT.1]at h';cases h'
    . exact cN h' oT.1
    . exact cN h' oT.1
   have e7:=bK oT (x:=.box [co 0,AV.str [],bv 0]);have ah9:∀{τ:Nat}{tt:Tok},(bG.new b7 (.box [co 0,AV.str [],bv 0])).tok τ=some tt->τ≠b7:=λht=>(fY m7 ht).symm;generalize bG.new b7 _=cI at *;rw[cV m7];refine⟨⟨rfl,rfl,by simp[mx]⟩,?_⟩;have m7':(cI.set b7 (.box (ax [co 0,AV.str [],bv 0] 0 (al (.agg (mx x)))))).box b7=some (mx x):=by rw[aZ];rfl
   have hB3:Bu aK (cI.set b7 (.box (ax [co 0,AV.str [],bv 0] 0 (al (.agg (mx x)))))) b5 (gE (l.take i)):=by
    have hs:∀c,c≠b7->(cI.set b7 (.box (ax [co 0,AV.str [],bv 0] 0 (al (.agg (mx x)))))).live c=cI.live c:=λc hc=>by rw[eM,if_neg hc]
    refine⟨?_,hB2.new,hB2.fz.kg f7 hs⟩;rcases hB2.at_ with ⟨h0,h'|h'⟩|⟨h0,τ,h',k,k2⟩
    . exact .inl ⟨h0,.inl (by rw[hs _ n75.symm];exact h')⟩
    . exact .inl ⟨h0,.inr (by rw[eE (hs _ n75.symm)];exact h')⟩
    . exact .inr ⟨h0,τ,by rw[eE (hs _ n75.symm)];exact h',by rw[nA (hs τ (ah9 k))];exact k,k2⟩
   generalize cI.set b7 _=dc at *;intro j hj;have tail:∀(s:aT)(aa:St),Bu aK aa b5 s->aa.box b7=some (mx x)->s++x.2=gE (l.take (i+1))->s.length<=50000->j vl (.box b5 0) (.box b7 0) vl (bv l.length) (bv (i:Nat)) aa:=by
    intro s aa xS m7 e p8;refine hj _ _ _ _ _ _ _ ?_;refine gw (dN m7 rfl ?_);have AA:=vp JE;refine Jb JE.1 xS d6 λy jn ajq _=>?_;rw[cF];exact⟨aX d6 d6,l.length-(i+1),d6,i+1,rfl,d6,rfl,rfl,rfl,rfl,d8,by rw[<-e];exact ajq⟩
   have kI:l.take (i+1)=l.take i++[x]:=by rw[nP,hx];rfl
   have hti:=ub i;rw[dq,ao]
   by_cases sE:i=0
   . subst sE;simp only[show decide ((0:Int)<((0:Nat):Int))=false from rfl,aF,show (false==true)=false from rfl,aw,bB,av,bW,if_false,ao];refine cz (tail _ dc hB3 m7' ?_ (by simp[gE]));rw[kI];simp[gE]
   . obtain⟨k,rfl⟩:∃k,i=k+1:=⟨i-1,d6⟩;obtain⟨y,hy⟩:∃y,l[k]?=some y:=⟨l[k]'(by omega),by simp[show k<l.length by omega]⟩;have ajZ:l.take (k+1)=l.take k++[y]:=by rw[nP,hy];rfl
     have rZ:gE (l.take (k+1+1))=gE (l.take (k+1))++(if p5 y x then [32] else [])++x.2:=by
      rw[kI,ajZ,lG];exact Ca _ _ _
     have ajx:decide ((0:Int)<((k+1:Nat):Int)):=decide_eq_true d6;simp only[ajx,aF,eG,aw,bO,ao];rw[La];refine⟨aX d6 d6,?_⟩;have ox:(((k+1:Nat):Int)-1)=((k:Nat):Int):=by omega
     rw[ox];refine akl hv hy ?_;rw[B0 m7'];refine⟨by simp[mx],?_⟩;rw[show ((mx x).drop 0).take 3=mx x from rfl];refine jV (QX y x) ?_;simp only[av,if_true,ao];cases L9:p5 y x with
     | true =>
       refine cO ?_;rw[L9,if_pos rfl]at rZ;refine aes (c:=32) hB3 d6 λyy jg hB6 f6=>?_;refine tail _ jg hB6 (f6.bq n75 m7') rZ.symm (by simp;omega)
     | false =>
       refine cz (tail _ dc hB3 m7' ?_ d6);rw[L9]at rZ;rw[rZ];simp
 . have hi:i=l.length:=by omega
   subst hi;rw[oO]at hB;refine Tg hB ?_;rw[dq,ad];refine df (λAo=>?_) λAo=>?_
   . have hE:eU l=([],5):=by unfold eU;rw[if_neg h9,if_pos d6]
     rw[hE]at h;exact aq.mk (h _ ((Fz.mV e1).trans hB.fz))
   . have hE:eU l=(gE l,0):=by unfold eU;rw[if_neg h9,if_neg d6]
     rw[hE]at h;refine Th hB λcI _ hf=>aq.mk (h _ ((Fz.mV e1).trans hf))
end
def kS(ks:List (Int×List Tx)):Nat:=(ks.map λy=>y.2.length+3).sum
def Io{c:Prop}[Decidable c]{A B:List Tx}{n:Nat}(h1:c->A.length<=n)(h2:¬ c->B.length<=n):(if c then A else B).length<=n:=by
 split
 . exact h1 ‹_›
 . exact h2 ‹_›
def F9(w:aT):∀(ls:List (List Tx)),(eH w ls).length<=(ls.map λl=>l.length+1).sum
 | []=>by simp[eH]
 | [l]=>by simp[eH]
 | l::m::ls=>by
   have:=F9 w (m::ls);rw[eH];simp only[dx,jm,fh,List.sum_cons]at this ⊢;omega
def IP(w:aT)(ks:List (Int×List Tx)):(eH w (ks.map (·.2))).length<=kS ks:=by
 refine Nat.le_trans (F9 _ _) ?_;unfold kS
 induction ks with
 | nil=>simp
 | cons y ks ih=>simp only[fh,List.sum_cons]at ih ⊢;omega
def Ac(k:Int)(n:Nat)(l:List Tx):(dY k n l).length<=l.length+2:=by
 unfold dY;split
 . omega
 . simp
def ahk(ks:List (Int×List Tx)):(eH dF (ks.map λx=>dY x.1 1 x.2)).length<=kS ks:=by
 refine Nat.le_trans (F9 _ _) ?_;unfold kS
 induction ks with
 | nil=>simp
 | cons y ks ih =>
   have:=Ac y.1 1 y.2;simp only[fh,List.sum_cons]at ih ⊢;omega
def MM(a b:List (Int×List Tx)):kS (a++b)=kS a+kS b:=by simp[kS]
def ago:∀(ks:List (Int×List Tx)),(ks.getD 0 (0,[])).2.length+(ks.getD 1 (0,[])).2.length+(ks.getD 2 (0,[])).2.length<=kS ks
 | []=>by simp[kS]
 | [a]=>by simp[kS]
 | [a,b]=>by simp[kS];omega
 | a::b::c::ks=>by simp[kS];omega
def agm(w:aT)(ks:List (Int×List Tx)):(eH w ((ks.map (·.2)).take (ks.length-1))).length+(ks.getD (ks.length-1) (0,[])).2.length<=kS ks:=by
 cases ks with
 | nil=>simp[eH,kS]
 | cons y r =>
   obtain⟨q,x,hq⟩:=oE (l:=y::r) d8;rw[hq];have:=IP w q;have e:(q++[x]).length-1=q.length:=by simp
   rw[e,MM,List.map_append,List.take_left' d8];have:((q++[x]).getD q.length (0,[])).2=x.2:=by simp[pq]
   rw[this];have:kS [x]=x.2.length+3:=by simp[kS]
   omega
def agn(w:aT)(ks:List (Int×List Tx))(h:2<=ks.length):(eH w ((ks.map (·.2)).take (ks.length-2))).length+(ks.getD (ks.length-2) (0,[])).2.length+(ks.getD (ks.length-1) (0,[])).2.length<=kS ks:=by
 obtain⟨q1,y,rfl⟩:=oE (l:=ks) d6;obtain⟨q,x,rfl⟩:=oE (l:=q1) (by simp at h;omega);have:=IP w q;have e:(q++[x]++[y]).length-2=q.length:=by simp
 have e1:(q++[x]++[y]).length-1=q.length+1:=by simp
 rw[e,e1,MM,MM,lG,List.map_append,List.take_left' d8];have h1:((q++([x]++[y])).getD q.length (0,[])).2=x.2:=by simp[pq]
 have h2:((q++([x]++[y])).getD (q.length+1) (0,[])).2=y.2:=by simp[pq]
 rw[h1,h2];have:kS [x]=x.2.length+3:=by simp[kS]
 have:kS [y]=y.2.length+3:=by simp[kS]
 omega
def Sf{k:Int}{t:aT}{n m:Int}{ks:List (Int×List Tx)}(h34:k=3\/k=4->2<=ks.length):(c8 k t n m ks).length<=16+kS ks:=by
 have f3:=ago ks;have f1:=agm ep ks;have f0:=IP ep ks;have fq:=ahk ks;have b0:=λl=>Ac (ks.getD 0 (0,[])).1 l (ks.getD 0 (0,[])).2;have b1:=λl=>Ac (ks.getD 1 (0,[])).1 l (ks.getD 1 (0,[])).2;have b2:=λl=>Ac (ks.getD 2 (0,[])).1 l (ks.getD 2 (0,[])).2;have bl:=λl=>Ac (ks.getD (ks.length-1) (0,[])).1 l (ks.getD (ks.length-1) (0,[])).2;unfold c8;simp only;refine Io (λc=>?_) (λc2=>Io (λc=>?_) (λc34=>?_))
 . simp only[dx,jm,nQ];omega
 . have f2:=agn ep ks (h34 c);simp only[dx,jm,nQ];omega
 repeat' (refine Io (λc=>?_) (λc=>?_))
 all_goals try simp only[dx,jm,nQ]
 all_goals first
  | omega
  | (have:=b0 1;have:=b1 1;have:=b2 1;omega)
  | (have:=b0 4;omega)
  | (have:=b0 8;omega)
  | (have:=b0 (if er k=5 then 6 else er k);have:=b1 (er k+1);omega)
  | (have:=bl 1;omega)
def abh{ks:List Tre}(h:dB (ks.map Tre.kind) [⟨.kind 5,0,900⟩,⟨.base,1,1⟩,⟨.term,1,1⟩]):2<=ks.length:=by
 refine Nat.le_of_not_lt λaA=>?_;obtain⟨ps,a,b,rfl,_⟩:=BH d6 h;simp at aA;omega
def aff{k:Int}{x:aT}{n m a:Int}{ks:List Tre}(ho:(Tre.mk k x n m a ks).ok):(Tre.mk k x n m a ks).pr.length<=16+(ks.map λt=>t.pr.length+3).sum:=by
 obtain⟨f,hf,g1,g2,g3⟩:=Tre.BN ho;rw[Tre.ee];have h:=Sf (k:=k) (t:=x) (n:=n) (m:=m) (ks:=ks.map λt=>(t.kind,t.pr)) (λh=>by
  have nv:f=⟨true,false,false,[⟨.kind 5,0,900⟩,⟨.base,1,1⟩,⟨.term,1,1⟩]⟩:=by rcases h with rfl|rfl<;>simpa [bS] using hf.symm
  subst nv;rw[List.length_map];exact abh g2)
 have e:kS (ks.map λt=>(t.kind,t.pr))=(ks.map λt=>t.pr.length+3).sum:=by
  unfold kS;rw[List.map_map];rfl
 rw[e]at h;exact h
def afg:∀(N:Nat)(ts:List Tre),(Tre.cH ts).length<=N->(∀t∈ts,t.ok)->(ts.map λt=>t.pr.length+3).sum<=19*(Tre.cH ts).length:=by
 intro N
 induction N with
 | zero =>
   intro ts hN ho;cases ts with
   | nil=>simp
   | cons t ts=>have:=t.eC;simp only[Tre.dT,dx]at hN;omega
 | succ N ih =>
   intro ts hN ho;cases ts with
   | nil=>simp
   | cons t ts =>
     have ht:=ho t d8;have p6:=lQ t;simp only[Tre.dT,dx]at hN;have i1:=ih t.kids d6 λc hc=>(AJ ht c hc).2;have i2:=ih ts d6 λc hc=>ho c (by simp[hc]);have hn:t.pr.length<=16+(t.kids.map λt=>t.pr.length+3).sum:=by
      cases t with
      | mk k x n m a ks=>exact aff ht
     rw[Tre.dT,dx,fh,List.sum_cons];omega
def Vg{t:Tre}(ho:t.ok):t.pr.length<=19*t.flat.length:=by
 have:=afg _ [t] (da _) (by simpa using ho);simp at this;omega
section
variable {v:AV}{L:List Nd}{U:St}{R:bi}{s:Tre}{n:Nat}
def PS.fz{b:Nat}{aj aa:St}{aS:List Tx}(h:PS b v aj aS aa)(hb:NK aj b):Fz aj aa:=λc x hx ht=>h.fr c x (hb.ne hx ht) hx ht
def QB{v:AV}{l:List Nd}(h:Sl v l):v.dC/\al v=[v]:=by
 rcases h.s with ⟨_,_,rfl⟩|⟨c,rfl⟩<;>exact⟨rfl,rfl⟩
def Fz.Hz{c:Nat}{aj U:St}{x:Live}(h:Fz aj U)(n:NK aj c):Fz aj (U.set c x):=h.kg n λd hd=>by rw[eM,if_neg hd]
def NW(hv:Sl v L)(hL:L.length<=1000)(hz:∀(i:Nat)(y:Nd),L[i]?=some y->y.size<=100000)(hs:dP L n s)(h9:s.flat.length<=900)(ho:s.ok)(h1:s.kind≠1)
 (h:∀aa,Fz U aa->R (.ret (.az [.str (eU s.pr).1,bv (eU s.pr).2])) aa):ag K 64 [.agg [v],bv (n:Nat)] U R:=by
 obtain⟨x,hx,p9,hxs,_⟩:=hs.oS;have hle:=hs.le;have oy:=Vg ho;have As:=M6 hv hL hz _ s n (da _) hs h9 ho h1;refine NI ?_;dsimp only[SG,jN,ae,lD,bg,ak,fw,Ch,aQ,ah,Ec,Ed,dj,ar,cw,eN,dI,cG,cn,aC,dm,dA,uE,kN];rw[fg rfl];intro b2 iq;have m2:(U.new b2 (.box (al (.agg [v])))).box b2=some [v]:=aH;have e2:=bK iq (x:=.box (al (.agg [v])));generalize U.new b2 _=aj at *;rw[dh];intro b4 kG;have m4:(aj.new b4 (.box [AV.str []])).box b4=some [.str []]:=aH;have Hj:=kG.cA m2;have f4:=e2.fresh kG.1;have e4:=e2.new kG (x:=.box [AV.str []]);have m2:=(bK kG (x:=.box [AV.str []])).bq m2;generalize aj.new b4 (.box [AV.str []])=aK at *;rw[dh];intro b5 kZ;have m5:(aK.new b5 (.box [bv 0])).box b5=some [bv 0]:=aH;have n25:=kZ.cA m2;have Fk:=kZ.cA m4;have f5:=e4.fresh kZ.1;have e5:=e4.new kZ (x:=.box [bv 0]);have m2:=(bK kZ (x:=.box [bv 0])).bq m2;have m4:=(bK kZ (x:=.box [bv 0])).bq m4;generalize aK.new b5 (.box [bv 0])=aV at *;refine gw (gw (dN m2 rfl (wK (hv.ir _) hx (show (dv x)[0]?=some (co x.kind) from rfl) ?_)));rw[p9,ck,ad,decide_eq_false h1];simp only[dS];refine cO ?_;rw[B0 m2];refine⟨d8,jV FY ?_⟩;rw[ag6];refine Q4 [v,.af,opsV] ?_ ?_
 . obtain⟨l1,l2⟩:=QB hv;simp[ta,opsV,ax]
 rw[fg rfl];intro S9 Ma;have m22:(aV.new S9 (.box (al (.agg [v,.af,opsV])))).box S9=some [v,.af,opsV]:=aH;have n2:=Ma.cA m2;have en:=bK Ma (x:=.box (al (.agg [v,.af,opsV])));have ajC:NK aV S9:=.of Ma.1;have hP:PS S9 v aV [] (aV.new S9 (.box (al (.agg [v,.af,opsV])))):=⟨⟨.af,m22,gi.nil (xi _)⟩,.mV en⟩;have ak5:=Ma.cA m4;have ak6:=Ma.cA m5;refine⟨λb hb=>?_,?_⟩
 . simp only[cB,iM,dy,List.not_mem_nil,or_false]at hb;subst hb;rw[oK,if_neg n2]
 refine As _ _ _ _ _ hP (by unfold NT;simp;omega) λbG h3=>?_;rw[bh];rw[mQ]at h3;have f3:=h3.fz ajC;obtain⟨⟨vl,gk,hg⟩,_⟩:=h3;simp only[bL,ad];refine gw (dN gk rfl ?_);refine acN hg.sl (Sg _ s (da _) ho) d6 λcI f4'=>?_;simp only[bh,bN,List.drop,bI];have f34:=f3.trans f4';have m4:=f34.bq m4;have m5:=f34.bq m5;rw[cV m4];refine⟨⟨rfl,rfl,d8⟩,?_⟩;rw[cV (show (cI.set b4 _).box b5=some [bv 0] by rw[bf Fk.symm];exact m5)];refine⟨⟨rfl,rfl,d8⟩,?_⟩;rw[B2 (show ((cI.set b4 (.box (ax [.str []] 0 (al (.str (eU s.pr).1))))).set b5 (.box (ax [bv 0] 0 (al (bv (eU s.pr).2))))).box b4=some [.str (eU s.pr).1] by rw[bf Fk,aZ];rfl) rfl];rw[B2 aZ rfl];refine aq.mk (h _ ?_);have hfz:Fz U cI:=(Fz.mV e5).trans f34;exact (hfz.Hz (.of f4)).Hz (.of f5)
def B9{t:Tre}{ts:List Tre}{acc:aT}:kr (t::ts) acc=if (eU t.pr).2≠0 then ([],(eU t.pr).2) else kr ts (acc++(eU t.pr).1++[10]):=rfl
def acL(hv:Sl v L)(hL:L.length<=1000)(hz:∀(i:Nat)(y:Nd),L[i]?=some y->y.size<=100000)(hs:dP L n s)(h9:s.flat.length<=900)(ho:s.ok)(h1:s.kind=1)
 (h:∀aa,Fz U aa->R (.ret (.az [.str (kr s.kids []).1,bv (kr s.kids []).2])) aa):ag K 64 [.agg [v],bv (n:Nat)] U R:=by
 obtain⟨x,hx,p9,hxs,_⟩:=hs.oS;have hle:=hs.le;have p6:=lQ s;have ju:=AJ ho;refine NI ?_;dsimp only[SG,jN,ae,lD,bg,ak,fw,Ch,aQ,ah,Ec,Ed,dj,ar,cw,eN,dI,cG,cn,aC,dm,dA,uE,kN];rw[fg rfl];intro b2 iq;have m2:(U.new b2 (.box (al (.agg [v])))).box b2=some [v]:=aH;have e2:=bK iq (x:=.box (al (.agg [v])));generalize U.new b2 _=aj at *;rw[dh];intro b4 kG;have m4:(aj.new b4 (.box [AV.str []])).box b4=some [.str []]:=aH;have Hj:=kG.cA m2;have f4:=e2.fresh kG.1;have e4:=e2.new kG (x:=.box [AV.str []]);have m2:=(bK kG (x:=.box [AV.str []])).bq m2;generalize aj.new b4 (.box [AV.str []])=aK at *;rw[dh];intro b5 kZ;have m5:(aK.new b5 (.box [bv 0])).box b5=some [bv 0]:=aH;have n25:=kZ.cA m2;have Fk:=kZ.cA m4;have f5:=e4.fresh kZ.1;have e5:=e4.new kZ (x:=.box [bv 0]);have m2:=(bK kZ (x:=.box [bv 0])).bq m2;have m4:=(bK kZ (x:=.box [bv 0])).bq m4;generalize aK.new b5 (.box [bv 0])=aV at *;refine gw (gw (dN m2 rfl (wK (hv.ir _) hx (show (dv x)[0]?=some (co x.kind) from rfl) ?_)));rw[p9,ck,ad,decide_eq_true h1];simp only[cL];refine cz ?_;rw[my];intro b7 oT;rw[show NV.at b7 .box=AV.box b7 0 from rfl];have hB:Bu U (aV.new b7 (.wV 158 [.bE,.af])) b7 []:=⟨.inl ⟨rfl,.inl (by rw[oK,if_pos rfl])⟩,.of (e5.fresh oT.1),.mV (e5.new oT)⟩;have n27:=oT.cA m2;have n47:=oT.cA m4;have n57:=oT.cA m5;have e7:=bK oT (x:=.wV 158 [.bE,.af]);have m2:=e7.bq m2;have m4:=e7.bq m4;have m5:=e7.bq m5;generalize aV.new b7 _=bG at *;refine rU m2 ?_;refine BI (n:=n) hv.s hx (aX d6 d6) λbn be bt cI d1 d2 d3 f1 f2 f3 q1 q2 q3 e3=>?_;rw[bh];have n2n:b2≠bn:=λe=>cN m2 (e▸f1);have n4n:b4≠bn:=λe=>cN m4 (e▸f1);have n4e:b4≠be:=λe=>cN m4 (e▸f2);have n4t:b4≠bt:=λe=>cN m4 (e▸f3);have n5n:b5≠bn:=λe=>cN m5 (e▸f1);have n5e:b5≠be:=λe=>cN m5 (e▸f2);have n5t:b5≠bt:=λe=>cN m5 (e▸f3);have b7l:bG.live b7≠none:=by
  rcases hB.at_ with ⟨_,h'|h'⟩|⟨_,τ,h',_⟩
  . rw[h'];simp
  . exact cN h'
  . exact cN h'
 have n7n:b7≠bn:=λe=>b7l (e▸f1);have n7e:b7≠be:=λe=>b7l (e▸f2);have n7t:b7≠bt:=λe=>b7l (e▸f3);have m2:=e3.bq m2;have m4:=e3.bq m4;have m5:=e3.bq m5;have hB:=hB.mono (.mV e3);have E6:ix L ((n:Int)+x.size) L.length (n+1)=bH (n+1) s.kids:=by
  rw[hxs];exact BF hs
 have kH:s.kids.length<=900:=by have:=Tre.pA s.kids;omega
 have ret:∀(aa:St)(a:aT)(e:Int),aa.box b4=some [.str a]->aa.box b5=some [bv e]->Fz U aa->a=(kr s.kids []).1->e=(kr s.kids []).2->fV (some (false,1)) (.box b4 0) aa λr0=>fV (some (false,1)) (.box b5 0) aa λr1=>aq R (AV.az [r0,r1]) aa:=by
  intro aa a e k4 k5 hf ha he;rw[B2 k4 rfl,B2 k5 rfl];subst ha he;exact aq.mk (h _ hf)
 have put:∀(aa:St)(a0 a:aT)(e0 e:Int)(Q:St->Prop),aa.box b4=some [.str a0]->aa.box b5=some [bv e0]->Fz U aa ->
  (∀jn,jn.box b4=some [.str a]->jn.box b5=some [bv e]->Fz U jn->(∀c,c≠b4->c≠b5->jn.live c=aa.live c)->Q jn)->∀(P1 P2:am),(dD (some (false,1)) (.box b4 0) (.str a) aa).wp K aa (λ_ U=>(dD (some (false,1)) (.box b5 0) (bv e) U).wp K U (λ_ U=>Q U) P2) P1:=by
  intro aa a0 a e0 e Q k4 k5 hf hQ P1 P2;rw[cV k4];refine⟨⟨rfl,rfl,d8⟩,?_⟩;rw[cV (show (aa.set b4 (.box (ax [.str a0] 0 (al (.str a))))).box b5=some [bv e0] by rw[bf Fk.symm];exact k5)];refine⟨⟨rfl,rfl,d8⟩,hQ _ ?_ ?_ ?_ ?_⟩
  . rw[bf Fk,aZ];rfl
  . rw[aZ];rfl
  . exact (hf.Hz (.of f4)).Hz (.of f5)
  . intro c c4 c5;rw[eM,if_neg c5,eM,if_neg c4]
 have fin:∀(aa:St)(acc:aT),aa.box b4=some [.str []]->aa.box b5=some [bv 0]->Bu U aa b7 acc->kr s.kids []=kr [] acc ->
  ag K 126 [.box b7 0] aa (bD (λv49 U =>
  (bU .gtr (BT.mk false false false none false) true v49 (bv 2500)).wp K U (λux U =>
  cX ux (
   (dD (some (false,1)) (.box b4 0) (AV.str w_) U).wp K U (λ_ U =>
   (dD (some (false,1)) (.box b5 0) (bv 5) U).wp K U (λ_ U =>
   fV (some (false,1)) (.box b4 0) U λakn =>
   fV (some (false,1)) (.box b5 0) U λakr =>
   aq R (AV.az [akn,akr]) U) (aD R)) (aD R)) (
   ag K 127 [.box b7 0] U (bD (λv51 U =>
   (dD (some (false,1)) (.box b4 0) v51 U).wp K U (λ_ U =>
   (dD (some (false,1)) (.box b5 0) (bv 0) U).wp K U (λ_ U =>
   fV (some (false,1)) (.box b4 0) U λako =>
   fV (some (false,1)) (.box b5 0) U λaks =>
   aq R (AV.az [ako,aks]) U) (aD R)) (aD R)) (aD R)))) (aD R)) (aD R)):=by
  intro aa acc k4 k5 xS e;refine Tg xS ?_;rw[dq,ad];refine df (λAo=>?_) λAo=>?_
  . have hE:kr s.kids []=([],5):=by rw[e,kr,if_pos d6]
    exact put aa [] [] 0 5 _ k4 k5 xS.fz (λjn j4 j5 hf _=>ret jn [] 5 j4 j5 hf (by rw[hE]) (by rw[hE])) _ _
  . have hE:kr s.kids []=(acc,0):=by rw[e,kr,if_neg d6]
    refine Th xS λdc CY hf5=>?_;exact put dc [] acc 0 0 _ (CY.bq n47 k4) (CY.bq n57 k5) hf5 (λjn j4 j5 hf _=>ret jn acc 0 j4 j5 hf (by rw[hE]) (by rw[hE])) _ _
 have hNL:∀{aa:St},Fz U aa->∀{o:Nat},aa.live o=none->NK U o:=λhf o ho=>hf.nk ho;refine Fq (n:=n) (en:=(n:Int)+x.size)
  (λo ks aa=>(aa.box bn=some [bv (n:Nat)]/\aa.box be=some [bv ((n:Int)+x.size)]/\aa.box bt=some [v])/\(aa.box b2=some [v]/\aa.box b4=some [.str []]/\aa.box b5=some [bv 0])/\NK U o/\∃acc,Bu U aa b7 acc/\acc.length<=2501*ks.length/\kr s.kids []=kr (s.kids.drop ks.length) acc)
  (λo aa=>NK U o/\Fz U aa/\∃e,aa.box b4=some [.str []]/\aa.box b5=some [bv e]/\kr s.kids []=([],e)) hv.s d6 d6 d6
  (λo ks aa hI=>hI.1) (λo ks aa L0 L' hI ho=>?_) (λo aa L0 L' hJ ho=>?_) (λks ir y aa o L1 q hI hy aA ais hnk kH td lz Ug hrx=>?_) (λks aa o L0 ju hI Jo=>?_) (λaa o L0 hJ Jo=>?_) (λo L0 ho=>?_)
 . obtain⟨⟨i1,i2,i3⟩,⟨j2,j4,j5⟩,hn,acc,xS,hl,he⟩:=hI;have kb:∀{c y},aa.box c=some y->(aa.set o (.loop L')).box c=some y:=λh=>by rw[bf (cQ h ho)];exact h
   exact⟨⟨kb i1,kb i2,kb i3⟩,⟨kb j2,kb j4,kb j5⟩,hn,acc,xS.kg hn ho λc hc=>by rw[eM,if_neg hc],hl,he⟩
 . obtain⟨hn,hf,e,j4,j5,he⟩:=hJ;have kb:∀{c y},aa.box c=some y->(aa.set o (.loop L')).box c=some y:=λh=>by rw[bf (cQ h ho)];exact h
   exact⟨hn,hf.Hz hn,e,kb j4,kb j5,he⟩
 . obtain⟨⟨i1,i2,i3⟩,⟨j2,j4,j5⟩,hn,acc,xS,hl,he⟩:=hI;rw[E6]at td;obtain⟨r,hr⟩:=td;have xY:(bH (n+1) s.kids)[ks.length]?=some ir:=by rw[hr];simp
   obtain⟨u,hu,G5⟩:=oG hs.kids xY;have hum:=fT hu;obtain⟨uk1,uok⟩:=ju u hum;have hut:=Tre.Dk hum;have Bp:s.kids.drop ks.length=u::s.kids.drop (ks.length+1):=by
    rw[gI (dw.1 hu).1,(dw.1 hu).2]
   have ak0:ks.length<s.kids.length:=(dw.1 hu).1;rw[Bp,B9]at he;refine rU j2 (NW hv hL hz G5 d6 uok uk1 λdc CY=>?_);have i1:=CY.bq i1;have i2:=CY.bq i2;have i3:=CY.bq i3;have j2:=CY.bq j2;have j4:=CY.bq j4;have j5:=CY.bq j5;have xS:=xS.mono CY;have lz:=CY.loop lz;simp only[bh,bN,List.drop,bI];refine HQ ?_
   by_cases tX:(eU u.pr).2=0
   . simp only[tX,cC,cL];refine cz ?_;rw[if_neg (by simp[tX])]at he;obtain⟨t1,t2,t3⟩:=Kv tX;have hlen:((eU u.pr).1).length<=2500:=by rw[t1];exact t3
     rw[mI];refine⟨by simp[pV];omega,?_⟩;refine Jb (by simp[pV]) xS (by simp[pV];omega) λyy jg hB6 f6=>?_;refine Ug jg ⟨⟨f6.bq n7n.symm i1,f6.bq n7e.symm i2,f6.bq n7t.symm i3⟩,⟨f6.bq n27 j2,f6.bq n47 j4,f6.bq n57 j5⟩,hn,_,hB6,?_,?_⟩ (hz _ _ hy) (f6.loop ?_ lz)
     . simp[pV];omega
     . rw[he,dx,List.length_singleton];congr 1;simp[pV]
     . rintro rfl;rcases xS.at_ with ⟨_,h'|h'⟩|⟨_,τ,h',_⟩
       . unfold St.loop at lz;rw[h']at lz;cases lz
       . exact cQ h' lz rfl
       . exact cQ h' lz rfl
   . simp only[tX,cZ,dS];refine cO ?_;rw[if_pos tX]at he;refine put dc [] [] 0 _ _ j4 j5 xS.fz (λjn k4 k5 hf pc=>?_) _ _;refine hrx jn ⟨hn,hf,_,k4,k5,he⟩ ?_;rw[iX (pc o (cQ j4 lz).symm (cQ j5 lz).symm)];exact lz
 . obtain⟨⟨i1,i2,i3⟩,⟨j2,j4,j5⟩,hn,acc,xS,hl,he⟩:=hI;have kb:∀{c y},aa.box c=some y->(aa.del o).box c=some y:=λh=>by rw[jF (cQ h Jo)];exact h
   rw[E6]at ju;have hlen:ks.length=s.kids.length:=by rw[ju,iw]
   rw[hlen,List.drop_length]at he;exact fin _ acc (kb j4) (kb j5) (xS.kg hn Jo λc hc=>by rw[jv,if_neg hc]) he
 . obtain⟨hn,hf,e,j4,j5,he⟩:=hJ;have kb:∀{c y},aa.box c=some y->(aa.del o).box c=some y:=λh=>by rw[jF (cQ h Jo)];exact h
   exact ret _ [] e (kb j4) (kb j5) (hf.kg hn λc hc=>by rw[jv,if_neg hc]) (by rw[he]) (by rw[he])
 . have e:=bK ho (x:=.loop L0);exact⟨⟨e.bq q1,e.bq q2,e.bq q3⟩,⟨e.bq m2,e.bq m4,e.bq m5⟩,hB.fz.nk ho.1,[],hB.mono (.mV e),d8,d8⟩
end
section
variable {U:St}{R:bi}{v:AV}{l:List Nd}{p:Int}{g:FuncId}{fs cs:List AV}
def ahq(hv:Sl v l)(hl:l.length<=10000)(mT:∀x∈l,x.text.length<=3000)(hg:gP K.P g)
 (h0:lO l p≠0->∀aa,dt U aa->R (.ret (.az [.str [],bv (lO l p)])) aa)
 (h1:lO l p=0->∀aa,dt U aa->ag K g (fs++[.agg [v]]++cs) aa (ac3 R (.str []))):ag K 62 [.agg [v],bv p,.func (.func g) fs cs] U R:=by
 refine ach ?_;dsimp only[adL,ae,bg,ak,ah,dj,ar,dI,cJ,fW,aC,dm];rw[fg rfl];intro b1 gz;have m1:(U.new b1 (.box (al (.agg [v])))).box b1=some [v]:=aH;have e1:=bK gz (x:=.box (al (.agg [v])));generalize U.new b1 _=aK at *;refine rU m1 ((Q8 hv.s hv.c hl mT).go ?_);rw[ck,ad]
 by_cases hc:iU l=0
 rotate_left
 . simp only[hc,cZ,dS];refine cO (aq.mk ?_);rw[<-xJ (p:=p) hc];exact h0 (by rw[xJ hc];exact hc) _ e1
 simp only[hc,cC,cL];refine cz (gw (dN m1 rfl ?_));rw[hv.s.len,ad,jA,il,wp_cond,ad];refine⟨aX d6 d6,acY ?_⟩;simp only[db,ad]
 by_cases hp:0<=p/\p<=(l.length:Int)-1
 rotate_left
 . simp only[hp,cZ,dS];refine cO (aq.mk ?_);have:=aai hc hp;rw[<-this];exact h0 (by rw[this];decide) _ e1
 simp only[hp,and_self,cC,cL];refine cz (rU m1 (jC [v] rfl ?_));rw[ahA hg];exact aeB (h1 (aej hc hp) _ e1)
end
noncomputable def nY(l:List Nd)(p:Int):aT×Int:=if lO l p≠0 then ([],lO l p) else match Cb ((l.drop p.toNat).take (iY l p.toNat)) with|some s=>pT s|none=>([],0)
def D2{l:List Nd}{p:Int}(h:lO l p≠0):nY l p=([],lO l p):=by unfold nY;rw[if_pos h]
def Ku{t s:Tre}{n:Nat}(h:lO t.flat n=0)(hs:dP t.flat n s):nY t.flat n=pT s:=by
 have gj:=SH hs;unfold nY;rw[if_neg (by simp[h]),ez,gj];obtain⟨r,hr⟩:=hs;rw[hr,List.take_left,Kx]
def SM{s:Tre}(h:(pT s).2≠0):(pT s).1=[]:=by
 have e1:∀l:List Tx,(eU l).2≠0->(eU l).1=[]:=λl h=>by
  unfold eU at h ⊢
  repeat' split
  all_goals first
   | rfl
   | (exfalso;simp_all)
 have e2:∀(ts:List Tre)(acc:aT),(kr ts acc).2≠0->(kr ts acc).1=[]:=by
  intro ts
  induction ts with
  | nil=>intro acc h;unfold kr at h ⊢;split<;>simp_all
  | cons t ts ih =>
    intro acc h;rw[B9]at h ⊢;split
    . rfl
    . rename_i h';rw[if_neg h']at h;exact ih _ h
 unfold pT at h ⊢;split
 . rename_i h';rw[if_pos h']at h;exact e1 _ h
 . rename_i h';rw[if_neg h']at h;exact e2 _ _ h
def ZS{v:AV}{l:List Nd}(hv:Sl v l)(hl:l.length<=1000)(mT:∀x∈l,x.text.length<=3000)(p:Int):Pure K 28 [.agg [v],bv p] (.az [.str (nY l p).1,bv (nY l p).2]):=by
 refine Pure.of (by simp[cW,hv.cl,show closed (bv p) from rfl]) rfl (λU=>rfl) λR hR=>?_;refine ab1 ?_;dsimp only[adw,ae,ah,dj,dI,iH,dm];rw[fg rfl];intro b1 gz;have m1:((cj ⟨.e,0⟩).new b1 (.box (al (.agg [v])))).box b1=some [v]:=aH;generalize (cj _).new b1 _=aj at *;rw[fg rfl];intro b2 iq;have m2:(aj.new b2 (.box (al (bv p)))).box b2=some [bv p]:=aH;have m1:=(bK iq (x:=.box (al (bv p)))).bq m1;generalize aj.new b2 (.box (al (bv p)))=aK at *;refine rU m1 (dN m2 rfl ?_);have fin:∀(x:aT)(e:Int)(aa:St),x=(nY l p).1->e=(nY l p).2->bD (λv9 U=>(jt v9 0).wp K U (λv10 U=>(jt v9 1).wp K U (λv11 U=>aq R (AV.az [v10,v11]) U) (aD R)) (aD R)) (aD R) (.ret (.az [.str x,bv e])) aa:=by
  intro x e aa hx he;subst hx he;simp only[bh,bN,List.drop,bI];exact aq.mk (hR _)
 refine ahq (fs:=[]) (cs:=[.box b2 0]) hv d6 mT (by kernel_rfl) (λha aV e2=>?_) (λha aV e2=>?_)
 . exact fin _ _ _ (by rw[D2 ha]) (by rw[D2 ha])
 have m2:=e2.bq m2;obtain⟨n,t,s,rfl,rfl,h1,h2,h3,hs⟩:=I7 ha;have hS:=Ku ha hs;have hle:=hs.le;have Jx:t.flat.length<=900:=by
  refine Nat.le_of_not_lt λh'=>?_;have:lO t.flat n≠0:=by
   have hc:iU t.flat=5:=by unfold iU;rw[if_pos h']
   rw[xJ (by rw[hc];decide),hc];decide
  exact this ha
 have dG:s.ok:=by
  obtain⟨s',fj,Mx⟩:=AZ _ [t] 0 (da _) (show sf t.flat 0 [t] from ⟨[],d8⟩) n d6 (by simpa using h3);rw[hs.inj fj];exact Mx (by simp[h2])
 have hz:∀(i:Nat)(y:Nd),t.flat[i]?=some y->y.size<=100000:=λi y hy=>by have:=Rm.2.2 i y hy;omega
 have key:∀Rt:bi,(∀aa,Rt (.ret (.az [.str (pT s).1,bv (pT s).2])) aa)->ag K 63 [.agg [v],.box b2 0] aV Rt:=by
  intro Rt hRt;refine aci ?_;dsimp only[adM,ae,ah,dj,dI,iH,dm];rw[fg rfl];intro b3 kF;have m3:(aV.new b3 (.box (al (.agg [v])))).box b3=some [v]:=aH;have m2:=(bK kF (x:=.box (al (.agg [v])))).bq m2;generalize aV.new b3 _=bG at *;refine rU m3 (dN m2 rfl ?_)
  by_cases hk:s.kind=1
  . have:pT s=kr s.kids []:=by unfold pT;rw[if_neg (by simp[hk])]
    rw[this]at hRt;refine acL hv hl hz hs d6 dG hk λaa _=>?_;simp only[bh,bN,List.drop,bI];exact aq.mk (hRt _)
  . have:pT s=eU s.pr:=by unfold pT;rw[if_pos hk]
    rw[this]at hRt;refine NW hv hl hz hs d6 dG hk λaa _=>?_;simp only[bh,bN,List.drop,bI];exact aq.mk (hRt _)
 refine key _ λaa=>⟨_,_,rfl,λcD=>fin _ _ _ ?_ (by rw[hS]),λhe=>fin _ _ _ (by rw[hS]) (by rw[hS,he])⟩;rw[hS,SM cD]
def Sh{v:AV}{l:List Nd}(hv:Sl v l)(hl:l.length<=1000)(mT:∀x∈l,x.text.length<=3000):Pure K 25 [.agg [v]] (.az [.str (nY l 0).1,bv (nY l 0).2]):=by
 refine Pure.of (by simp[cW,hv.cl]) rfl (λU=>rfl) λR hR=>?_;refine abY ?_;dsimp only[ads,ae,ah,dj,dI,dm];rw[fg rfl];intro b1 gz;have m1:((cj ⟨.e,0⟩).new b1 (.box (al (.agg [v])))).box b1=some [v]:=aH;generalize (cj _).new b1 _=aj at *;refine rU m1 ((ZS hv hl mT 0).go ?_);simp only[bN,List.drop,bI];exact aq.mk (hR _)
end Go.Rip
namespace Go.Rip
def To{l:List Nd}(h:iU l=0):∃t:Tre,l=t.flat/\t.kind=1/\t.ok/\t.flat.length<=900/\t.deep<=60/\t.kids.length<=24:=by
 have h9:¬ 900<l.length:=λh'=>by unfold iU at h;rw[if_pos h']at h;cases h
 have:∃t:Tre,l=t.flat/\t.kind=1/\t.ok:=Classical.not_not.1 λh'=>by rw[Bk h9 h']at h;cases h
 obtain⟨t,rfl,h1,h2⟩:=this;refine⟨t,rfl,h1,h2,d6,?_⟩;rw[yL t h9]at h;unfold uP at h;rw[if_neg (by simp[h1,h2])]at h;refine⟨Nat.le_of_not_lt λh'=>?_,Nat.le_of_not_lt λh'=>?_⟩
 . rw[if_pos (.inl h')]at h;cases h
 . rw[if_pos (.inr h')]at h;cases h
def Vh{t:Tre}(h1:t.kind=1)(h2:t.ok)(h9:t.flat.length<=900):(∀c∈t.kids,c.ok/\jI c.kind/\c.flat.length<=900)/\∃a,t=.mk 1 [] 0 0 a t.kids:=by
 cases t with
 | mk k x n m a ks =>
   obtain rfl:k=1:=h1;obtain⟨f,hf,g1,g2,g3⟩:=Tre.BN h2;obtain rfl:(⟨false,false,false,[⟨.item,0,900⟩]⟩:iQ)=f:=by simpa [bS] using hf
   obtain⟨f1,_,_,_,f5,f6⟩:=qW g1;obtain rfl:=f1 rfl;obtain rfl:=f5 rfl;obtain rfl:=f6 rfl;obtain⟨_,hc⟩:=K2 g2;have hlen:(Tre.cH ks).length+1=(Tre.mk 1 [] 0 0 a ks).flat.length:=by rw[Tre.gQ];simp
   exact⟨λc Cp=>⟨g3 c Cp,hc c Cp,by have:=Tre.Dk (ks:=ks) Cp;omega⟩,a,rfl⟩
end Go.Rip
namespace Go.Rip
open Go.Proofs Go.RowKit
variable {U:St}{K' Kp:am}
section
variable {gv:AV}{r:aW}{k:AV->Prop}{bt:BT}{b:Bool}{x y:Int}{i:IntKind}
def wc(hg:gv=.bool true)(h:bC K r k):aI K gv r k:=by rw[hg];exact lS h
def ag7(h:¬ y<x)(hk:k (.bool false)):bC K (bU .gtr bt b (.int i x) (.int i y)) k:=by rw[dq,ao,decide_eq_false h];exact hk
def ag9(h:x=y)(hk:k (.bool false)):bC K (bU .neq bt b (.int i x) (.int i y)) k:=by rw[ck,ao,decide_eq_true h];exact hk
def ag8(h:y<x)(hk:k (.bool true)):bC K (bU .gtr bt b (.int i x) (.int i y)) k:=by rw[dq,ao,decide_eq_true h];exact hk
def Vl(h:x=y)(hk:k (.bool true)):bC K (bU .eql bt b (.int i x) (.int i y)) k:=by rw[aN,ao,decide_eq_true h];exact hk
def HP(h:x≠y)(hk:K' (.bool false) U):(bU .eql bt b (.int i x) (.int i y)).wp K U K' Kp:=by rw[aN,ad,decide_eq_false h];exact hk
def Z8(h:x=y)(hk:K' (.bool true) U):(bU .eql bt b (.int i x) (.int i y)).wp K U K' Kp:=by rw[aN,ad,decide_eq_true h];exact hk
def aha{s u:aT}(h:s=u)(hk:k (.bool false)):bC K (bU .neq bt b (.str s) (.str u)) k:=by rw[nr,ao,decide_eq_true h];exact hk
def vu{u w:AV}(hk:K' w U):(fP (.bool false) u w).wp K U K' Kp:=hk
def Gp{u w:AV}(hk:K' u U):(fP (.bool true) u w).wp K U K' Kp:=hk
def KV{m:AV}{L l:List AV}{b1 o n:Nat}(hg:gv=.bool true)(hb:U.box b1=some L)(hd:L.drop (o+n)=m::l)(h:k m) :
 aI K gv (bu (some n) (.box b1 o)) λp=>aI K gv (bj (some (false,1)) p U) k:=by
 subst hg;simp only[aw,bO];exact j9 (eQ hb hd h)
end
end Go.Rip
