import Derived.Test.YtnfpmiiopiinbaaGreatDoorYi
set_option linter.all false
namespace Go.Rip
open Go.Proofs Go.RowKit
def mW:List Tx->aT
 | []=>[]
 | [a]=>a.2
 | a::b::l=>a.2++32::mW (b::l)
def MR{s:aT}:∀(l:List Tx)(acc:List Tk)(p f:Nat),(∀x∈l,o5 x)->s.drop p=mW l->s.length-p<=f->acc.length+l.length<=900->∃ts,ts.map tx=l/\iy f s p acc=.ok (acc++ts)
 | [],acc,p,f,hl,hs,hf,ha=>by
   refine⟨[],rfl,?_⟩;cases f with
   | zero=>simp[iy]
   | succ f =>
     have hs:s.drop p=[]:=hs;rw[iy,hs];simp
 | [a],acc,p,f,hl,hs,hf,ha=>by
   have h:=hl a d8;have ua:s.drop p=a.2++[]:=by rw[hs,iM];rfl
   have:=LH ua (by simp[h.1]);have hp:0<a.2.length:=List.length_pos_iff.2 h.1;simp only[dx,nQ,jm]at this ha;obtain⟨f,rfl⟩:∃g,f=g+1:=⟨f-1,d6⟩;rw[MS h ua aeo,if_neg d6];have hd:=LG ua;obtain⟨ts,e1,e2⟩:=MR [] (acc++[⟨a.1,a.2,p⟩]) (p+a.2.length) f d8 hd d6 (by simp;omega);refine⟨⟨a.1,a.2,p⟩::ts,by rw[fh,e1];rfl,?_⟩;rw[e2,lG];rfl
 | a::b::l,acc,p,f,hl,hs,hf,ha=>by
   have h:=hl a d8;have ua:s.drop p=a.2++32::mW (b::l):=hs;have:=LH ua (by simp[h.1]);have hp:0<a.2.length:=List.length_pos_iff.2 h.1;simp only[dx,jm]at this ha;obtain⟨f,rfl⟩:∃g,f=g+1:=⟨f-1,d6⟩;obtain⟨f,rfl⟩:∃g,f=g+1:=⟨f-1,d6⟩;have hd:=LG ua;rw[MS h ua (Ta (.inl rfl)),if_neg d6,UN hd (.inl rfl)];obtain⟨ts,e1,e2⟩:=MR (b::l) (acc++[⟨a.1,a.2,p⟩]) (p+a.2.length+1) f (λx hx=>hl x (by simp only[dy]at hx ⊢;exact .inr hx)) (by rw[<-List.drop_drop,hd];rfl) d6 (by simp;omega);refine⟨⟨a.1,a.2,p⟩::ts,by rw[fh,e1];rfl,?_⟩;rw[e2,lG];rfl
def ZN:∀(l:List Tx),(∀x∈l,o5 x)->∀c∈mW l,kO c
 | [],_,c,h=>by simp[mW]at h
 | [a],ho,c,h=>ZW (ho a d8) c h
 | a::b::l,ho,c,h=>by
   rw[mW,gV,dy]at h;rcases h with h|rfl|h
   . exact ZW (ho a d8) c h
   . decide
   . exact ZN (b::l) (λx hx=>ho x (by simp only[dy]at hx ⊢;exact .inr hx)) c h
def NL:∀(l:List Tx),(∀x∈l,x.2.length<=20)->(mW l).length<=21*l.length
 | [],_=>by simp[mW]
 | [a],h=>by have:=h a d8;simp[mW];omega
 | a::b::l,h=>by
   have:=h a d8;have:=NL (b::l) λx hx=>h x (by simp only[dy]at hx ⊢;exact .inr hx);simp only[mW,dx,jm]at *;omega
def EL(x:Tx):Prop:=o5 x/\x.2.length<=20
def jS:∀w∈j0++fF,EL (bo w):=by
 have:∀w∈j0++fF,w.length<=20:=by decide
 exact λw hw=>⟨aeb w hw,this w hw⟩
def wE{x:aT}(h:gr x)(h0:x≠[]):EL (fp x):=⟨adm h h0,by have:=jJ h;show x.length<=20;omega⟩
def pB:∀(f n:Nat),(lI f n).length<=f
 | 0,n=>by simp[lI]
 | f+1,n=>by
   unfold lI;have:=pB f (n / 10);split<;>simp<;>omega
def FT{n:Int}(h:ek n):EL (kL n):=⟨R9 h,pB 20 _⟩
def aeT{l:List Tx}(h:∀x∈l,EL x)(hl:l.length<=20):∃L,L.map tx=l/\lF (mW l)=.ok L:=by
 have h1:∀x∈l,o5 x:=λx hx=>(h x hx).1;have hlen:=NL l λx hx=>(h x hx).2;have hc:pG (mW l)=(0,0):=by
  unfold pG;rw[if_neg d6];have:(mW l).findIdx? (λc=>!kO c)=none:=by
   rw[List.findIdx?_eq_none_iff];intro c hc;simp[ZN l h1 c hc]
  rw[this]
 obtain⟨ts,e1,e2⟩:=MR (s:=mW l) l [] 0 (mW l).length h1 rfl d6 (by simp;omega);refine⟨ts,e1,?_⟩;unfold lF;rw[hc];simpa using e2
variable {K' Kp:am}
def aiI{bt:BT}{l:Bool}{a b:Int}{U:St}:(bU .quo bt l (bv a) (bv b)).wp K U K' Kp=(b≠0/\xG (a.tdiv b)/\K' (bv (a.tdiv b)) U):=by rw[Oj,il];rfl
def aiK{bt:BT}{l:Bool}{a b:Int}{U:St}:(bU .rem bt l (bv a) (bv b)).wp K U K' Kp=(b≠0/\K' (bv (a.tmod b)) U):=by rw[Ok];rfl
def GB{n:Nat}(h:n<10):Pure K 240 [bv (n:Nat)] (.str [(48+n).toUInt8]):=by
 refine Pure.of rfl rfl (λU=>rfl) λR hR=>?_;refine Ks ?_;dsimp only[NH,ae,ak,ah,ar,ca,aC];rw[aY,ad,decide_eq_true d6];refine cO ?_;rw[cF];refine⟨aX d6 d6,?_⟩;simp only[nz,gp,wp_cond,ad,ez,show ((n:Int)+1).toNat=n+1 by omega,show (yB).length=10 from rfl];refine⟨d6,aq.mk ?_⟩;have key:∀m:Fin 10,(yB.take (m.val+1)).drop m.val=[(48+m.val).toUInt8]:=by decide
 have:=key ⟨n,h⟩;simp only at this;rw[this];exact hR _
def Ck:∀(f n:Nat),n<10 ^ (f+1)->n<=1000000->f<=100->Pure K 240 [bv (n:Nat)] (.str (lI (f+1) n))
 | f,n,hn,hm,hf=>by
   unfold lI
   by_cases h9:n<10
   . rw[if_pos h9];exact GB h9
   rw[if_neg h9];obtain⟨f,rfl⟩:∃g,f=g+1:=⟨f-1,by
    cases f with
    | zero=>simp at hn;omega
    | succ f=>rfl⟩
   have ih:=Ck f (n / 10) (by rw[Nat.pow_succ]at hn;omega) d6 d6;have dg:=GB (n:=n%10) (Nat.mod_lt _ d7);have hlen:=pB (f+1) (n / 10);refine Pure.of rfl rfl (λU=>rfl) λR hR=>?_;refine Ks ?_;dsimp only[NH,ae,ak,ah,ar,ca,aC];rw[aY,ad,decide_eq_false d6];refine cz ?_;have e1:(n:Int).tdiv 10=((n / 10:Nat):Int):=by rw[Int.tdiv_eq_ediv_of_nonneg d6];omega
   have e2:(n:Int).tmod 10=((n%10:Nat):Int):=by rw[Int.tmod_eq_emod_of_nonneg d6];omega
   rw[aiI,e1];refine⟨d7,aX d6 d6,ih.go ?_⟩;rw[aiK,e2];refine⟨d7,dg.go ?_⟩;rw[mI];refine⟨by simp;omega,aq.mk (hR _)⟩
def nE{n:Int}(h:ek n):Pure K 240 [bv n] (.str (mZ n)):=by
 have hn:=of_decide_eq_true h;have hp:(1000000:Nat)<10 ^ 20:=by decide
 have:=Ck 19 n.toNat d6 d6 d6;rwa [Int.toNat_of_nonneg hn.1]at this
structure RS (b:Nat) (v:AV) (aj:St) (aS:List Tx) (U:St):Prop where
 box:∃vl L,L.map tx=aS/\U.box b=some [v,vl]/\gi (cj ⟨.e,0⟩) U vl 51 3 L.length (gu L)
 fr:Fr b aj U
variable {vk:AV}{pl:List Nat}{ts:List Tre}{tk:List Tx}{b4 i:Nat}{w:aT}
section
variable {b c n:Nat}{U aj aK aa:St}{v:AV}{aS l rest xs:List Tx}{L:List Nd}{t:Tre}
def RS.mono(h:RS b v aj aS U)(e:dt U aa):RS b v aj aS aa:=by
 obtain⟨⟨vl,L,hL,h1,h2⟩,h3⟩:=h;exact⟨⟨vl,L,hL,e.bq h1,h2.mono e⟩,h3.trans (.mV e)⟩
def RS.AS(h:RS b v aj aS U):RS b v U aS U:=⟨h.box,Fr.refl _ _⟩
def RS.app(h:RS b v aj aS U)(k:RS b v U l aa):RS b v aj l aa:=⟨k.box,h.fr.trans k.fr⟩
def RS.ld(h:RS b v aj aS U):∃vl,U.box b=some [v,vl]:=by
 obtain⟨⟨vl,_,_,h1,_⟩,_⟩:=h;exact⟨vl,h1⟩
def acD{l:List Tk}:qD U (pz l)=some (l.length,gu l):=by
 unfold pz;split
 . rename_i h;subst h;rfl
 . rfl
def acO(l:List Tk):(gu l).length=l.length*3:=by
 induction l with
 | nil=>rfl
 | cons x l ih =>
   have:(gu (x::l)).length=3+(gu l).length:=by simp[gu,jD];omega
   rw[this,ih,jm];omega
def afs{s:aT}{R:bi}(hs:s=mW xs)(hx:∀x∈xs,EL x)(h0:xs≠[])(hl:xs.length<=20)(h:RS b v aj aS U)(hb:(aS++xs).length<=NT)(hk:∀aa,RS b v aj (aS++xs) aa->R (.ret (.az [])) aa):ag K 193 [.box b 0,.str s] U R:=by
 refine Yj ?_;dsimp only[Yi,ae,bg,ah,cw,cG,ej,cn,dm];obtain⟨L2,e1,e2⟩:=aeT hx hl;have hlen:=NL xs λx lJ=>(hx x lJ).2;have ht:=DS s (by rw[hs];omega);rw[hs,e2]at ht;rw[hs];refine ht.go ?_;simp only[qh,bN,List.drop,bI];obtain⟨⟨vl,L1,e3,h1,h2⟩,h3⟩:=h;simp only[bL,ad];refine gw (dN h1 rfl ?_);have qI:L2.length=xs.length:=by rw[<-e1];simp
 have yU:L1.length=aS.length:=by rw[<-e3];simp
 have tc:0<xs.length:=List.length_pos_iff.2 h0;unfold NT at hb;rw[dx]at hb;refine yC h2 acD (acO L2) d6 d6 λaV w g k=>?_;have hbk:=(ly h2.g k).1 h1;have iV:∀{c z},U.live c=some z->(∀t,z=.tok t->t.e≠51)->∀n l,vl≠.vec n (.own c) l:=λhz ht n l hv=>by
  rcases h2.g with ⟨_,_,h3⟩|⟨τ,r1,r2,_⟩
  . rw[h3]at hv;cases hv
  . rw[r1]at hv;cases hv;unfold St.tok at r2;rw[hz]at r2;split at r2
    . rename_i t e;cases e;cases r2;exact ht _ rfl rfl
    . cases r2
 refine gw ?_;have hl:w.dC/\al w=[w]:=by
  rcases g.g with ⟨h0,_,_⟩|⟨τ,r1,_,_⟩
  . omega
  . rw[r1];exact⟨rfl,rfl⟩
 rw[cV hbk];refine⟨⟨hl.1,by rw[hl.2];rfl,d8⟩,aq.mk (hk _ ⟨⟨w,L1++L2,by rw[List.map_append,e3,e1],by rw[aZ,hl.2];rfl,?_⟩,?_⟩)⟩
 . rw[dx,vP];refine⟨?_,g.z,g.t,xi _⟩;rcases g.g with g'|⟨τ,r1,r2,r3⟩
   . exact .inl g'
   . exact .inr ⟨τ,r1,by rw[jk (fY hbk r2).symm];exact r2,r3⟩
 . refine h3.trans λc z hc hz ht=>?_;rw[eM,if_neg hc];exact k c z (iV hz ht) hz
def kf{s:aT}{K':am}{Kp:am}(xs:List Tx)(hs:s=mW xs)(hx:∀x∈xs,EL x)(h0:xs≠[])(hl:xs.length<=20)(h:RS b v aj aS U)(hb:(aS++(xs++rest)).length<=NT)
 (hk:∀aa,RS b v aj (aS++xs) aa->((aS++xs)++rest).length<=NT->K' (.az []) aa):ag K 193 [.box b 0,.str s] U (bD K' Kp) :=
 afs hs hx h0 hl h (by simp at hb ⊢;omega) λaa h'=>hk aa h' (by simpa using hb)
def mf{K':am}{Kp:am}(hw:w∈j0++fF)(h:RS b v aj aS U)(hb:(aS++(bo w::rest)).length<=NT)
 (hk:∀aa,RS b v aj (aS++[bo w]) aa->((aS++[bo w])++rest).length<=NT->K' (.az []) aa):ag K 193 [.box b 0,.str w] U (bD K' Kp) :=
 kf [bo w] rfl (λx hx=>by rw[lT]at hx;subst hx;exact jS w hw) d8 d8 h hb hk
def CH(v:AV)(n:Nat)(t:Tre):Prop:=∀(b:Nat)(aj U:St)(aS:List Tx)(R:bi),RS b v aj aS U->(aS++t.pr).length<=NT->(∀aa,RS b v aj (aS++t.pr) aa->R (.ret (.az [])) aa)->ag K 128 [.box b 0,bv (n:Nat)] U R
def Pc(v:AV)(n:Nat)(t:Tre):Prop:=∀(b:Nat)(aj U:St)(aS:List Tx)(R:bi),RS b v aj aS U->(aS++t.pr).length<=NT->(∀aa,RS b v aj (aS++t.pr) aa->R (.ret (.az [])) aa)->ag K 194 [.box b 0,bv (n:Nat)] U R
def QD(g:CH v n t)(h:RS b v aj aS U)(hb:(aS++(t.pr++rest)).length<=NT)(hk:∀aa,RS b v aj (aS++t.pr) aa->((aS++t.pr)++rest).length<=NT->K' (.az []) aa):ag K 128 [.box b 0,bv (n:Nat)] U (bD K' Kp) :=
 g _ _ _ _ _ h (by simp at hb ⊢;omega) λaa h'=>hk aa h' (by simpa using hb)
def afA(g:Pc v n t)(h:RS b v aj aS U)(hb:(aS++(t.pr++rest)).length<=NT)(hk:∀aa,RS b v aj (aS++t.pr) aa->((aS++t.pr)++rest).length<=NT->K' (.az []) aa):ag K 194 [.box b 0,bv (n:Nat)] U (bD K' Kp) :=
 g _ _ _ _ _ h (by simp at hb ⊢;omega) λaa h'=>hk aa h' (by simpa using hb)
def ai0{x:Nd}{Kp:am}(h:jE U v L)(hx:L[n]?=some x)(hk:K' (.agg (dv x)) U) :
 (bJ (some (43,6)) none v (bv (n:Nat))).wp K U (λp U=>(bj (some (true,6)) p U).wp K U K' Kp) Kp:=by
 have aA:=(dw.1 hx).1;obtain⟨r,hr⟩:=AM hx;rcases h with (⟨rfl,rfl⟩|⟨cp,rfl⟩)|⟨b,rfl,hb⟩
 . simp at aA
 . rw[sv,ez,hr];refine⟨d6,?_⟩;rw[tP];exact⟨by simp[dv],by simpa [dv] using hk⟩
 . rw[xr,ez,cK];refine⟨⟨d6,d6,rfl⟩,?_⟩;rw[mK hb,hr];exact⟨by simp[dv],by simpa [dv] using hk⟩
def gR{K':AV->am}{Kp:am}{s:Tre}(hv:dz v L.length (bM L))(hL:L.length<=1000)(hs:dP L n s)(h:RS b v aj aS U)
 (hk:∀b4 aK vk x,L[n]?=some x->b4≠b->aK.box b4=some (vY s x.size)->dz vk (bH (n+1) s.kids).length (dW (bH (n+1) s.kids))->RS b v aK aS aK->(∀l aa,RS b v aK l aa->RS b v aj l aa)->K' (.box b4 0) vk aK) :
 (jf (.box b 0)).wp K U (λv8 U=>(bu (some 0) v8).wp K U (λv9 U=>(bj (some (false,1)) v9 U).wp K U (λv10 U=>(bJ (some (43,6)) none v10 (bv (n:Nat))).wp K U (λv12 U=>(bj (some (true,6)) v12 U).wp K U (λsb U =>
   (aW.mU [co 0,AV.str [],bv 0,bv 0,bv 0,bv 0]).wp K U (λv4 U=>(dD (some (true,6)) v4 sb U).wp K U (λ_ U =>
   (jf (.box b 0)).wp K U (λnT U=>(bu (some 0) nT).wp K U (λA7 U=>(bj (some (false,1)) A7 U).wp K U (λzn U =>
   ag K 67 [zn,bv (n:Nat)] U (bD (λrB U=>K' v4 rB U) Kp)) Kp) Kp) Kp) Kp) Kp) Kp) Kp) Kp) Kp) Kp:=by
 obtain⟨vl,gk⟩:=h.ld;obtain⟨x,hx,f1,f2,f3,f4,f5,f6⟩:=hs.oS;simp only[bL,ad];refine gw (dN gk rfl (ai0 (hv.Dl (U:=U)) hx ?_));rw[dh];intro b4 kG;have m4:(U.new b4 (.box [co 0,AV.str [],bv 0,bv 0,bv 0,bv 0])).box b4=some _:=aH;have n4:b4≠b:=(kG.cA gk).symm;have e1:dt U ((U.new b4 (.box [co 0,AV.str [],bv 0,bv 0,bv 0,bv 0])).set b4 (.box (dv x))):=(bK kG).set kG.1;rw[cV m4];refine⟨⟨rfl,rfl,d8⟩,?_⟩;have es:ax [co 0,AV.str [],bv 0,bv 0,bv 0,bv 0] 0 (al (.agg (dv x)))=dv x:=rfl;rw[es];have m4:((U.new b4 (.box [co 0,AV.str [],bv 0,bv 0,bv 0,bv 0])).set b4 (.box (dv x))).box b4=some (dv x):=aZ;generalize (U.new b4 _).set b4 _=aV at *;have h2:=h.mono e1;have aa7:=e1.bq gk;refine gw (dN aa7 rfl ?_);refine AK (hv.Dl (U:=aV)) hs d6 λbG vk g=>?_;rw[bh];have h3:=h2.mono g.ex;have hc:dv x=vY s x.size:=by unfold dv vY;rw[f1,f3,f4,f5,f6]
 refine hk b4 bG vk x hx n4 (by rw[<-hc];exact g.ex.bq m4) (by have:=g.sl;rwa [<-iw (n+1) s.kids]at this) h3.AS λl aa h'=>h3.app h'
def eV{o:Nat}{C:List AV}{c:AV}{Kp:am}(n4:b4≠b)(m4:aK.box b4=some C)(h':RS b v aK tk aa)(hc:C[o]?=some c)(k:K' c aa) :
 (bu (some o) (.box b4 0)).wp K aa (λv8 U=>(bj (some (false,1)) v8 U).wp K U K' Kp) Kp:=by
 have aA:=(dw.1 hc).1;have hd:C.drop (0+o)=c::C.drop (o+1):=by
  rw[cK,gI aA,(dw.1 hc).2]
 exact gw (dN (h'.fr.bq n4 m4) hd k)
def LQ{o:Nat}{C:List AV}{c:AV}{k:AV->AV->Prop}(n4:b4≠b)(m4:aK.box b4=some C)(h':RS b v aK tk aa)(hc:C[o]?=some c)(hk:k (.box b4 (0+o)) c) :
 bC K (bu (some o) (.box b4 0)) (λv8=>bC K (bj (some (false,1)) v8 aa) (k v8)):=by
 have aA:=(dw.1 hc).1;have hd:C.drop (0+o)=c::C.drop (o+1):=by
  rw[cK,gI aA,(dw.1 hc).2]
 exact j9 (eQ (h'.fr.bq n4 m4) hd hk)
def zS(k:Int):Pure K 196 [co k] (bv (er k:Nat)):=by
 refine Pure.of rfl rfl (λU=>rfl) λR hR=>?_;refine Yn ?_;dsimp only[Ym,ak,pZ,aQ,ah,ar];have fin:∀(m:Nat)(U:St),er k=m->aq R (bv (m:Nat)) U:=λm U h=>by subst h;exact aq.mk (hR _)
 have one:∀(i:Int)(m:Nat)(U:St)(B:am),er i=m->(k≠i->B (.bool false) U)->(bU .eql (BT.mk false false false none false) true (co k) (co i)).wp K U (λv U=>cX v (aq R (bv (m:Nat)) U) (B v U)) (aD R):=by
  intro i m U B h1 h2
  by_cases h:k=i
  . exact ic h (fin m U (by rw[h];exact h1))
  . exact bV h (h2 h)
 have Kz:∀(i:Int)(m:Nat)(U:St)(j:AV->am)(B:am),er i=m->(k=i->j (co k) (.bool true) U)->(k≠i->B (.bool false) U)->(bU .eql (BT.mk false false false none false) true (co k) (co i)).wp K U (λv U=>cX v (j (co k) v U) (B v U)) (aD R):=by
  intro i m U j B h1 h2 h3
  by_cases h:k=i
  . exact ic h (h2 h)
  . exact bV h (h3 h)
 have lst:∀(i:Int)(U:St)(j:AV->am),(k=i->j (co k) (.bool true) U)->(k≠i->j (co k) (.bool false) U)->(bU .eql (BT.mk false false false none false) true (co k) (co i)).wp K U (λv U=>j (co k) v U) (aD R):=by
  intro i U j h2 h3;rw[aN,ad]
  by_cases h:k=i
  . rw[decide_eq_true h];exact h2 h
  . rw[decide_eq_false h];exact h3 h
 refine one 9 0 _ _ rfl λn9=>?_;intro j hj;have J:∀i,er i=1->k=i->∀U,j (co k) (.bool true) U:=λi h1 h2 U=>hj _ _ _ (cO (fin 1 U (by rw[h2];exact h1)));refine Kz 10 1 _ j _ rfl (λh=>J _ rfl h _) λn10=>Kz 11 1 _ j _ rfl (λh=>J _ rfl h _) λn11=>Kz 12 1 _ j _ rfl (λh=>J _ rfl h _) λn12=>Kz 13 1 _ j _ rfl (λh=>J _ rfl h _) λn13=>Kz 14 1 _ j _ rfl (λh=>J _ rfl h _) λn14=>Kz 15 1 _ j _ rfl (λh=>J _ rfl h _) λn15=>lst 16 _ j (λh=>J _ rfl h _) λn16=>?_;refine hj _ _ _ (cz ?_);clear J hj;refine one 17 2 _ _ rfl λn17=>one 18 3 _ _ rfl λn18=>one 19 4 _ _ rfl λn19=>?_;intro j hj;have J:∀i,er i=5->k=i->∀U,j (co k) (.bool true) U:=λi h1 h2 U=>hj _ _ _ (cO (fin 5 U (by rw[h2];exact h1)));refine Kz 20 5 _ j _ rfl (λh=>J _ rfl h _) λn20=>lst 21 _ j (λh=>J _ rfl h _) λn21=>hj _ _ _ (cz ?_);clear J hj;intro j hj;have J:∀i,er i=6->k=i->∀U,j (co k) (.bool true) U:=λi h1 h2 U=>hj _ _ _ (cO (fin 6 U (by rw[h2];exact h1)));refine Kz 22 6 _ j _ rfl (λh=>J _ rfl h _) λn22=>lst 23 _ j (λh=>J _ rfl h _) λMZ=>hj _ _ _ (cz ?_);refine one 24 7 _ _ rfl λHj=>one 25 8 _ _ rfl λn25=>fin 9 _ ?_;unfold er;rw[if_neg d6,if_neg d6,if_neg d6,if_neg d6,if_neg d6,if_neg d6,if_neg d6,if_neg d6,if_neg d6]
structure gT (v:AV) (L:List Nd) (pl:List Nat) (ks:List Tre):Prop where
 len:pl.length=ks.length
 nd:∀(i n:Nat)(t:Tre),pl[i]?=some n->ks[i]?=some t->CH v n t/\(fJ t.kind->Pc v n t)/\∃x,L[n]?=some x/\x.kind=t.kind/\x.text=t.text
def ahf{least:Nat}{x:Nd}{R:bi}(hv:dz v L.length (bM L))(hx:L[n]?=some x)(p9:x.kind=t.kind)(g:CH v n t)(h:RS b v aj aS U)(hb:(aS++dY t.kind least t.pr).length<=NT)
 (hk:∀aa,RS b v aj (aS++dY t.kind least t.pr) aa->R (.ret (.az [])) aa):ag K 195 [.box b 0,bv (n:Nat),bv (least:Nat)] U R:=by
 refine Yl ?_;dsimp only[Yk,ae,bg,ak,ah,ca,eN,cG];obtain⟨vl,gk⟩:=h.ld;simp only[bL,ad];refine gw (dN gk rfl (wK (hv.Dl (U:=U)) hx (show (dv x)[0]?=some (co x.kind) from rfl) ((zS x.kind).go ?_)));rw[p9,aY,ad];refine df (λaA=>?_) λgL=>?_
 . have e:dY t.kind least t.pr=bo dM::(t.pr++[bo dE]):=by unfold dY;rw[if_neg d6];rfl
   rw[e]at hb hk;refine mf (w:=dM) d7 h hb λaK h1 b1=>QD g h1 b1 λaV h2 b2=>mf (w:=dE) (rest:=[]) d7 h2 (by simpa using b2) λbG h3 _=>aq.mk (hk _ (by simpa using h3))
 . have e:dY t.kind least t.pr=t.pr:=by unfold dY;rw[if_pos d6]
   rw[e]at hb hk;exact QD (rest:=[]) g h (by simpa using hb) λaa h' _=>aq.mk (hk aa h')
def aiU{least:Nat}{x:Nd}{K':am}{Kp:am}(hv:dz v L.length (bM L))(hx:L[n]?=some x)(p9:x.kind=t.kind)(g:CH v n t)(h:RS b v aj aS U)(hb:(aS++(dY t.kind least t.pr++rest)).length<=NT)
 (hk:∀aa,RS b v aj (aS++dY t.kind least t.pr) aa->((aS++dY t.kind least t.pr)++rest).length<=NT->K' (.az []) aa):ag K 195 [.box b 0,bv (n:Nat),bv (least:Nat)] U (bD K' Kp) :=
 ahf hv hx p9 g h (by simp at hb ⊢;omega) λaa h'=>hk aa h' (by simpa using hb)
def nS{least:Nat}{e:Nat}{K':am}{Kp:am}(hv:dz v L.length (bM L))(cE:dz vk pl.length (dW pl))(hp:gT v L pl ts)(ht:ts[i]?=some t)(h:RS b v aj aS U)(hb:(aS++(dY t.kind least t.pr++rest)).length<=NT)
 (hk:∀aa,RS b v aj (aS++dY t.kind least t.pr) aa->((aS++dY t.kind least t.pr)++rest).length<=NT->K' (.az []) aa) :
 (bJ (some (e,1)) none vk (bv (i:Nat))).wp K U (λA8 U=>(bj (some (false,1)) A8 U).wp K U (λv28 U=>ag K 195 [.box b 0,v28,bv (least:Nat)] U (bD K' Kp)) Kp) Kp:=by
 have hi:=(dw.1 ht).1;have hl:=hp.len;obtain⟨q,hq⟩:∃q,pl[i]?=some q:=⟨pl[i]'(by omega),by simp[show i<pl.length by omega]⟩;obtain⟨g,_,x,hx,p9,_⟩:=hp.nd i q t hq ht;exact lu cE hq (aiU hv hx p9 g h hb hk)
def B8{e:Nat}{K':am}{Kp:am}(cE:dz vk pl.length (dW pl))(hp:gT v L pl ts)(ht:ts[i]?=some t)(hty:fJ t.kind)(h:RS b v aj aS U)(hb:(aS++(t.pr++rest)).length<=NT)
 (hk:∀aa,RS b v aj (aS++t.pr) aa->((aS++t.pr)++rest).length<=NT->K' (.az []) aa) :
 (bJ (some (e,1)) none vk (bv (i:Nat))).wp K U (λA8 U=>(bj (some (false,1)) A8 U).wp K U (λv28 U=>ag K 194 [.box b 0,v28] U (bD K' Kp)) Kp) Kp:=by
 have hi:=(dw.1 ht).1;have hl:=hp.len;obtain⟨q,hq⟩:∃q,pl[i]?=some q:=⟨pl[i]'(by omega),by simp[show i<pl.length by omega]⟩;obtain⟨_,g,_⟩:=hp.nd i q t hq ht;exact lu cE hq (afA (g hty) h hb hk)
def afp{ks:List Nat}{R:bi}(cE:dz vk ks.length (dW ks))(hp:gT v L ks ts)(hl:ks.length<=100000)(h:RS b v aj aS U)
 (hb:(aS++eH ep (ts.map Tre.pr)).length<=NT) (hk:∀aa,RS b v aj (aS++eH ep (ts.map Tre.pr)) aa->R (.ret (.az [])) aa):ag K 239 [.box b 0,vk] U R:=by
 have hlen:=hp.len;refine Zj ?_;dsimp only[Zi,di,ae,ak,uC,fU,aQ,ah,ar,ca,cJ];refine⟨λm w0 w1 w4 aa=>∃i:Nat,m=ks.length-i/\i<=ks.length/\w0=.box b 0/\w1=vk/\w4=bv (i:Nat)/\RS b v aj (aS++eH ep ((ts.map Tre.pr).take i)) aa,⟨_,0,rfl,d6,rfl,rfl,rfl,by simpa [eH] using h⟩,?_⟩;rintro m w0 w1 w4 aK ⟨i,rfl,hi,rfl,rfl,rfl,h1⟩;rw[cE.len,ad,aY,ad];refine df (λaA=>?_) λgL=>?_
 . have aA:i<ks.length:=by omega
   obtain⟨n,hn⟩:∃n,ks[i]?=some n:=⟨ks[i],by simp[aA]⟩;obtain⟨t,ht⟩:∃t,ts[i]?=some t:=⟨ts[i]'(by omega),by simp[show i<ts.length by omega]⟩;obtain⟨g,_⟩:=hp.nd i n t hn ht;have qJ:(ts.map Tre.pr)[i]?=some t.pr:=by simp[ht]
   have kI:(ts.map Tre.pr).take (i+1)=(ts.map Tre.pr).take i++[t.pr]:=by rw[nP,qJ];rfl
   have hle:=DW ep (ts.map Tre.pr) (i+1);have fi:=hb;rw[dx]at fi;intro j hj;have tail:∀(tk:List Tx)(aa:St),RS b v aj tk aa->tk++t.pr=aS++eH ep ((ts.map Tre.pr).take (i+1))->j (.box b 0) w1 (bv (i:Nat)) aa:=by
    intro tk aa h' e;refine hj _ _ _ _ (lu cE hn ?_);refine g _ _ _ _ _ h' (by rw[e,dx];omega) λaV h2=>?_;rw[bh,cF];exact⟨aX d6 d6,ks.length-(i+1),d6,i+1,rfl,d6,rfl,rfl,d8,by rw[<-e];exact h2⟩
   rw[dq,ad];refine df (λAu=>?_) λhng=>?_
   . have cD:(ts.map Tre.pr).take i≠[]:=λe=>by
      have:=congrArg List.length e;rw[List.length_take,List.length_map,nQ]at this;omega
     have rZ:=DV ep t.pr cD;rw[kI]at hle tail;rw[rZ]at hle tail;refine mf (w:=ep) (rest:=t.pr) d7 h1 (by simp at hb hle ⊢;omega) λaV h2 _=>?_;exact tail _ aV h2 d8
   . have sE:i=0:=by omega
     subst sE;exact tail _ aK h1 (by rw[kI];simp[eH])
 . have hi:i=ks.length:=by omega
   subst hi;rw[pO (by simp;omega)]at h1;exact aq.mk (hk _ h1)
def ED{K':am}{Kp:am}(cE:dz vk pl.length (dW pl))(hp:gT v L pl ts)(hl:ts.length<=1000)(h:RS b v aj aS U)
 (hb:(aS++(eH ep (ts.map Tre.pr)++rest)).length<=NT) (hk:∀aa,RS b v aj (aS++eH ep (ts.map Tre.pr)) aa->((aS++eH ep (ts.map Tre.pr))++rest).length<=NT->K' (.az []) aa):ag K 239 [.box b 0,vk] U (bD K' Kp) :=
 afp cE hp (by have:=hp.len;omega) h (by simp at hb ⊢;omega) λaa h'=>hk aa h' (by simpa using hb)
def gT.app{ks ks':List Tre}(h:gT v L pl (ks++ks')):gT v L (pl.take ks.length) ks/\gT v L (pl.drop ks.length) ks':=by
 have hl:=h.len;rw[dx]at hl;refine⟨⟨by rw[List.length_take];omega,λi n t h1 h2=>?_⟩,⟨by rw[List.length_drop];omega,λi n t h1 h2=>?_⟩⟩
 . have hi:=(dw.1 h2).1;rw[List.getElem?_take_of_lt hi]at h1;exact h.nd i n t h1 (by rw[yp hi];exact h2)
 . rw[List.getElem?_drop]at h1;exact h.nd (ks.length+i) n t h1 (by rw[List.getElem?_append_right d6];simpa using h2)
end
def p4(f:FuncId)(v:AV)(n:Nat)(t:Tre):Prop:=∀(b:Nat)(aj U:St)(aS:List Tx)(R:bi),RS b v aj aS U->(aS++t.pr).length<=NT->(∀aa,RS b v aj (aS++t.pr) aa->R (.ret (.az [])) aa)->ag K f [.box b 0,bv (n:Nat)] U R
def sn:∀x∈([]:List Tx),EL x:=λ_ h=>nomatch h
def sc{a:Tx}{l:List Tx}(h:EL a)(t:∀x∈l,EL x):∀x∈a::l,EL x:=λx hx=>by
 rcases dy.1 hx with rfl|hx
 . exact h
 . exact t x hx
variable {k:Int}
section
variable {b n:Nat}{U aj aK aa:St}{v:AV}{aS l rest:List Tx}{L:List Nd}{s t A B C:Tre}{x:aT}{nn m a:Int}
def Qv{D:List AV}(n4:b4≠b)(m4:aK.box b4=some D)(h:RS b v aK tk aa):aa.live b4=aK.live b4:=by
 cases e:aK.live b4 with
 | none=>simp[St.box,e]at m4
 | some x=>exact h.fr b4 x n4 e λt ht=>by subst ht;simp[St.box,e]at m4
def HC{lf rt:Nat}{K':am}{Kp:am}(hw:w∈j0++fF)(hv:dz v L.length (bM L))(hL:L.length<=1000)(hs:dP L n s)(h2:s.kids=[A,B])(hp:gT v L (bH (n+1) s.kids) s.kids)(h:RS b v aj aS U)
 (hb:(aS++((dY A.kind lf A.pr++bo w::dY B.kind rt B.pr)++rest)).length<=NT)
 (hk:∀aa,RS b v aj (aS++(dY A.kind lf A.pr++bo w::dY B.kind rt B.pr)) aa->((aS++(dY A.kind lf A.pr++bo w::dY B.kind rt B.pr))++rest).length<=NT->K' (.az []) aa) :
 ag K 241 [.box b 0,bv (n:Nat),.str w,bv (lf:Nat),bv (rt:Nat)] U (bD K' Kp):=by
 refine Zl ?_;dsimp only[Zk,di,ae,bg,ah,cG];obtain⟨vl,gk⟩:=h.ld;simp only[bL,ad];refine gw (dN gk rfl (AK (hv.Dl (U:=U)) hs d6 λaK vk g=>?_));rw[bh];have h1:=h.mono g.ex;have cE:dz vk (bH (n+1) s.kids).length (dW (bH (n+1) s.kids)):=by have:=g.sl;rwa [<-iw (n+1) s.kids]at this
 have e0:s.kids[0]?=some A:=by rw[h2];rfl
 have e1:s.kids[1]?=some B:=by rw[h2];rfl
 have hb:(aS++(dY A.kind lf A.pr++(bo w::(dY B.kind rt B.pr++rest)))).length<=NT:=by simpa using hb
 refine nS (i:=0) hv cE hp e0 h1 hb λaV h2 b2=>mf hw h2 b2 λbG h3 b3=>nS (i:=1) hv cE hp e1 h3 b3 λcI h4 b4=>aq.mk (hk _ (by simpa using h4) (by simpa using b4))
section
variable (hv:dz v L.length (bM L))(hL:L.length<=1000)
include hv hL
def afi(hs:dP L n (.mk 10 x nn m a [A,B,C]))(hp:gT v L (bH (n+1) [A,B,C]) [A,B,C]):p4 197 v n (.mk 10 x nn m a [A,B,C]):=by
 intro b aj U aS R h hb hk;have e:(Tre.mk 10 x nn m a [A,B,C]).pr=bo uy::(dY A.kind 1 A.pr++(bo qi::(dY B.kind 1 B.pr++(bo gh::(dY C.kind 1 C.pr++[]))))):=by rw[Tre.ee];simp[c8]
 rw[e]at hb;refine rv ?_;dsimp only[wy,jN,di,ae,lD,bg,ak,ah,dj,ar,eN,cG,dr,dA,kT,mX,uE,od,oe];refine gR hv hL hs h λb4 aK vk x hx n4 m4 cE h1 up=>eV n4 m4 h1 (show _=some (co 10) from rfl) ?_;refine ic rfl ?_;refine mf d7 h1 hb λaV h2 b2=>nS (i:=0) (least:=1) hv cE hp rfl h2 b2 λbG h3 b3=>mf d7 h3 b3 λcI h4 b4=>nS (i:=1) (least:=1) hv cE hp rfl h4 b4 λdc h5 b5=>mf d7 h5 b5 λjg h6 b6=>nS (i:=2) (least:=1) hv cE hp rfl h6 b6 λgZ h7 b7=>aq.mk (hk _ (up _ _ ?_));rw[e];simpa using h7
def Sv(hs:dP L n (.mk 11 x nn m a [A,B]))(hp:gT v L (bH (n+1) [A,B]) [A,B]):p4 197 v n (.mk 11 x nn m a [A,B]):=by
 intro b aj U aS R h hb hk;have e:(Tre.mk 11 x nn m a [A,B]).pr=bo lU::((dY A.kind 1 A.pr++bo vr::dY B.kind 1 B.pr)++[]):=by rw[Tre.ee];simp[c8]
 rw[e]at hb;refine rv ?_;dsimp only[wy,jN,di,ae,lD,bg,ak,ah,dj,ar,eN,cG,dr,dA,kT,mX,uE,od,oe];refine gR hv hL hs h λb4 aK vk x hx n4 m4 cE h1 up=>eV n4 m4 h1 (show _=some (co 11) from rfl) ?_;refine bV d7 (ic rfl ?_);refine mf d7 h1 hb λaV h2 b2=>HC (lf:=1) (rt:=1) d7 hv hL hs rfl hp h2 b2 λbG h3 b3=>aq.mk (hk _ (up _ _ ?_));rw[e];simpa using h3
def OR(hs:dP L n (.mk 15 x nn m a [A,B]))(hp:gT v L (bH (n+1) [A,B]) [A,B]):p4 197 v n (.mk 15 x nn m a [A,B]):=by
 intro b aj U aS R h hb hk;have e:(Tre.mk 15 x nn m a [A,B]).pr=bo jz::((dY A.kind 1 A.pr++bo gh::dY B.kind 1 B.pr)++[]):=by rw[Tre.ee];simp[c8]
 rw[e]at hb;refine rv ?_;dsimp only[wy,jN,di,ae,lD,bg,ak,ah,dj,ar,eN,cG,dr,dA,kT,mX,uE,od,oe];refine gR hv hL hs h λb4 aK vk x hx n4 m4 cE h1 up=>eV n4 m4 h1 (show _=some (co 15) from rfl) ?_;refine bV d7 (bV d7 (bV d7 (bV d7 (bV d7 (ic rfl ?_)))));refine mf d7 h1 hb λaV h2 b2=>HC (lf:=1) (rt:=1) d7 hv hL hs rfl hp h2 b2 λbG h3 b3=>aq.mk (hk _ (up _ _ ?_));rw[e];simpa using h3
def Su(hx1:gr x)(hx0:x≠[])(hs:dP L n (.mk 13 x nn m a [A,B]))(hp:gT v L (bH (n+1) [A,B]) [A,B]):p4 197 v n (.mk 13 x nn m a [A,B]):=by
 intro b aj U aS R h hb hk;have zG:=jJ hx1;have e:(Tre.mk 13 x nn m a [A,B]).pr=[bo mJ,fp x,bo jQ]++((dY A.kind 1 A.pr++bo gh::dY B.kind 1 B.pr)++[]):=by rw[Tre.ee];simp[c8]
 rw[e]at hb;refine rv ?_;dsimp only[wy,jN,di,ae,lD,bg,ak,ah,dj,ar,eN,cG,dr,dA,kT,mX,uE,od,oe];refine gR hv hL hs h λb4 aK vk y hy n4 m4 cE h1 up=>eV n4 m4 h1 (show _=some (co 13) from rfl) ?_;refine bV d7 (bV d7 (bV d7 (ic rfl (eV n4 m4 h1 (show _=some (.str x) from rfl) ?_))));rw[mI];refine⟨by simp[xu];omega,?_⟩;rw[mI];refine⟨by simp[xu,rS];omega,?_⟩;refine kf [bo mJ,fp x,bo jQ] (by simp[mW,bo,fp,xu,rS,mJ,jQ]) (sc (jS _ d7) (sc (wE hx1 hx0) (sc (jS _ d7) sn))) d8 d8 h1 hb λaV h2 b2=>?_;refine HC (lf:=1) (rt:=1) d7 hv hL hs rfl hp h2 b2 λbG h3 b3=>aq.mk (hk _ (up _ _ ?_));rw[e];simpa using h3
def abH(hx1:gr x)(hx0:x≠[])(hs:dP L n (.mk 16 x nn m a [A]))(hp:gT v L (bH (n+1) [A]) [A]):p4 197 v n (.mk 16 x nn m a [A]):=by
 intro b aj U aS R h hb hk;have zG:=jJ hx1;have e:(Tre.mk 16 x nn m a [A]).pr=[fp x,bo bY]++(dY A.kind 1 A.pr++[]):=by rw[Tre.ee];simp[c8]
 rw[e]at hb;refine rv ?_;dsimp only[wy,jN,di,ae,lD,bg,ak,ah,dj,ar,eN,cG,dr,dA,kT,mX,uE,od,oe];refine gR hv hL hs h λb4 aK vk y hy n4 m4 cE h1 up=>eV n4 m4 h1 (show _=some (co 16) from rfl) ?_;refine bV d7 (bV d7 (bV d7 (bV d7 (bV d7 (bV d7 (ic rfl (eV n4 m4 h1 (show _=some (.str x) from rfl) ?_)))))));rw[mI];refine⟨by simp[zY];omega,?_⟩;refine kf [fp x,bo bY] (by simp[mW,bo,fp,zY,bY]) (sc (wE hx1 hx0) (sc (jS _ d7) sn)) d8 d8 h1 hb λaV h2 b2=>?_;refine nS (i:=0) (least:=1) hv cE hp rfl h2 b2 λbG h3 b3=>aq.mk (hk _ (up _ _ ?_));rw[e];simpa using h3
def abG(hx1:gr x)(hx0:x≠[])(hn:ek nn)(hm:ek m)(hs:dP L n (.mk 12 x nn m a [A]))(hp:gT v L (bH (n+1) [A]) [A]):p4 197 v n (.mk 12 x nn m a [A]):=by
 intro b aj U aS R h hb hk;have zG:=jJ hx1;have aa2:(mZ nn).length<=20:=pB 20 _;have ak3:(mZ m).length<=20:=pB 20 _;have e:(Tre.mk 12 x nn m a [A]).pr=[bo qQ,fp x,bo ef,kL nn,bo bY,kL m,bo jQ]++(dY A.kind 1 A.pr++[]):=by rw[Tre.ee];simp[c8]
 rw[e]at hb;refine rv ?_;dsimp only[wy,jN,di,ae,lD,bg,ak,ah,dj,ar,eN,cG,dr,dA,kT,mX,uE,od,oe];refine gR hv hL hs h λb4 aK vk y hy n4 m4 cE h1 up=>eV n4 m4 h1 (show _=some (co 12) from rfl) ?_;refine bV d7 (bV d7 (ic rfl (LQ n4 m4 h1 (show _=some (.str x) from rfl) ?_)));rw[sU];refine⟨by simp[rE];omega,?_⟩;rw[sU];refine⟨by simp[rE,oQ];omega,LQ n4 m4 h1 (show _=some (bv nn) from rfl) (jV (nE hn) ?_)⟩;rw[sU];refine⟨by simp[rE,oQ];omega,?_⟩;rw[sU];refine⟨by simp[rE,oQ,je];omega,LQ n4 m4 h1 (show _=some (bv m) from rfl) (jV (nE hm) ?_)⟩;rw[sU];refine⟨by simp[rE,oQ,je];omega,?_⟩;rw[sU];refine⟨by simp[rE,oQ,je,rS];omega,?_⟩;refine kf [bo qQ,fp x,bo ef,kL nn,bo bY,kL m,bo jQ] (by simp[mW,bo,fp,kL,rE,oQ,je,rS,qQ,ef,bY,jQ])
  (sc (jS _ d7) (sc (wE hx1 hx0) (sc (jS _ d7) (sc (FT hn) (sc (jS _ d7) (sc (FT hm) (sc (jS _ d7) sn))))))) d8 d8 h1 hb λaV h2 b2=>⟨λc hc=>?_,?_⟩
 . simp only[cB,iM,gV,dy,List.not_mem_nil,or_false,or_self]at hc;subst hc;exact Qv n4 m4 h2
 refine nS (i:=0) (least:=1) hv cE hp rfl h2 b2 λbG h3 b3=>aq.mk (hk _ (up _ _ ?_));rw[e];simpa using h3
def OS(hx1:gr x)(hx0:x≠[])(hn:ek nn)(hs:dP L n (.mk 14 x nn m a [A]))(hp:gT v L (bH (n+1) [A]) [A]):p4 197 v n (.mk 14 x nn m a [A]):=by
 intro b aj U aS R h hb hk;have zG:=jJ hx1;have aa2:(mZ nn).length<=20:=pB 20 _;have e:(Tre.mk 14 x nn m a [A]).pr=[bo jR,fp x,bo bY,kL nn,bo jQ]++(dY A.kind 1 A.pr++[]):=by rw[Tre.ee];simp[c8]
 rw[e]at hb;refine rv ?_;dsimp only[wy,jN,di,ae,lD,bg,ak,ah,dj,ar,eN,cG,dr,dA,kT,mX,uE,od,oe];refine gR hv hL hs h λb4 aK vk y hy n4 m4 cE h1 up=>eV n4 m4 h1 (show _=some (co 14) from rfl) ?_;refine bV d7 (bV d7 (bV d7 (bV d7 (ic rfl (LQ n4 m4 h1 (show _=some (.str x) from rfl) ?_)))));rw[sU];refine⟨by simp[qx];omega,?_⟩;rw[sU];refine⟨by simp[qx,je];omega,LQ n4 m4 h1 (show _=some (bv nn) from rfl) (jV (nE hn) ?_)⟩;rw[sU];refine⟨by simp[qx,je];omega,?_⟩;rw[sU];refine⟨by simp[qx,je,rS];omega,?_⟩;refine kf [bo jR,fp x,bo bY,kL nn,bo jQ] (by simp[mW,bo,fp,kL,qx,je,rS,jR,bY,jQ])
  (sc (jS _ d7) (sc (wE hx1 hx0) (sc (jS _ d7) (sc (FT hn) (sc (jS _ d7) sn))))) d8 d8 h1 hb λaV h2 b2=>⟨λc hc=>?_,?_⟩
 . simp only[cB,iM,gV,dy,List.not_mem_nil,or_false,or_self]at hc;subst hc;exact Qv n4 m4 h2
 refine nS (i:=0) (least:=1) hv cE hp rfl h2 b2 λbG h3 b3=>aq.mk (hk _ (up _ _ ?_));rw[e];simpa using h3
def tj{lf rt:Nat}(qY:(k,w,lf,rt)∈[((17:Int),wL,2,3),(18,sY,3,4),(20,gH,6,6),(21,pX,6,6),(22,pW,6,7),(23,oY,6,7),(24,qO,7,8)])(hs:dP L n (.mk k x nn m a [A,B]))(hp:gT v L (bH (n+1) [A,B]) [A,B]):p4 198 v n (.mk k x nn m a [A,B]):=by
 intro b aj U aS R h hb hk;have e:(Tre.mk k x nn m a [A,B]).pr=(dY A.kind lf A.pr++bo w::dY B.kind rt B.pr)++[]:=by
  rw[Tre.ee];simp only[dy,List.not_mem_nil,or_false,jK]at qY;rcases qY with ⟨rfl,rfl,rfl,rfl⟩|⟨rfl,rfl,rfl,rfl⟩|⟨rfl,rfl,rfl,rfl⟩|⟨rfl,rfl,rfl,rfl⟩|⟨rfl,rfl,rfl,rfl⟩|⟨rfl,rfl,rfl,rfl⟩|⟨rfl,rfl,rfl,rfl⟩<;>simp[c8,er,sa]
 rw[e]at hb;have hw:w∈j0++fF:=by
  simp only[dy,List.not_mem_nil,or_false,jK]at qY;rcases qY with ⟨_,rfl,_⟩|⟨_,rfl,_⟩|⟨_,rfl,_⟩|⟨_,rfl,_⟩|⟨_,rfl,_⟩|⟨_,rfl,_⟩|⟨_,rfl,_⟩<;>decide
 refine DZ ?_;dsimp only[HB,di,ae,bg,ak,ah,dj,ar,eN,cG,dr,dA];refine gR hv hL hs h λb4 aK vk y hy n4 m4 cE h1 up=>eV n4 m4 h1 (show _=some (co k) from rfl) ?_;have fin:=HC (K':=λv U=>aq R (.az []) U) (Kp:=aD R) (rest:=[]) hw hv hL hs rfl hp h1 hb λbG h3 b3=>aq.mk (hk _ (up _ _ (by rw[e];simpa using h3)));simp only[dy,List.not_mem_nil,or_false,jK]at qY;rcases qY with ⟨rfl,rfl,rfl,rfl⟩|⟨rfl,rfl,rfl,rfl⟩|⟨rfl,rfl,rfl,rfl⟩|⟨rfl,rfl,rfl,rfl⟩|⟨rfl,rfl,rfl,rfl⟩|⟨rfl,rfl,rfl,rfl⟩|⟨rfl,rfl,rfl,rfl⟩
 . exact ic rfl fin
 . exact bV d7 (ic rfl fin)
 . exact bV d7 (bV d7 (bV d7 (ic rfl fin)))
 . exact bV d7 (bV d7 (bV d7 (bV d7 (ic rfl fin))))
 . exact bV d7 (bV d7 (bV d7 (bV d7 (bV d7 (ic rfl fin)))))
 . exact bV d7 (bV d7 (bV d7 (bV d7 (bV d7 (bV d7 (ic rfl fin))))))
 . exact bV d7 (bV d7 (bV d7 (bV d7 (bV d7 (bV d7 (bV d7 (ic rfl fin)))))))
def abI(hs:dP L n (.mk 19 x nn m a [A]))(hp:gT v L (bH (n+1) [A]) [A]):p4 198 v n (.mk 19 x nn m a [A]):=by
 intro b aj U aS R h hb hk;have e:(Tre.mk 19 x nn m a [A]).pr=bo uA::(dY A.kind 4 A.pr++[]):=by rw[Tre.ee];simp[c8]
 rw[e]at hb;refine DZ ?_;dsimp only[HB,di,ae,bg,ak,ah,dj,ar,eN,cG,dr,dA];refine gR hv hL hs h λb4 aK vk y hy n4 m4 cE h1 up=>eV n4 m4 h1 (show _=some (co 19) from rfl) ?_;refine bV d7 (bV d7 (ic rfl ?_));refine mf d7 h1 hb λaV h2 b2=>nS (i:=0) (least:=4) hv cE hp rfl h2 b2 λbG h3 b3=>aq.mk (hk _ (up _ _ ?_));rw[e];simpa using h3
def afj(hn:ek nn)(hs:dP L n (.mk 25 x nn m a [A]))(hp:gT v L (bH (n+1) [A]) [A]):p4 198 v n (.mk 25 x nn m a [A]):=by
 intro b aj U aS R h hb hk;have aa2:(mZ nn).length<=20:=pB 20 _;have e:(Tre.mk 25 x nn m a [A]).pr=dY A.kind 8 A.pr++([bo su,kL nn]++[]):=by rw[Tre.ee];simp[c8]
 rw[e]at hb;refine DZ ?_;dsimp only[HB,di,ae,bg,ak,ah,dj,ar,eN,cG,dr,dA];refine gR hv hL hs h λb4 aK vk y hy n4 m4 cE h1 up=>eV n4 m4 h1 (show _=some (co 25) from rfl) ?_;refine bV d7 (bV d7 (bV d7 (bV d7 (bV d7 (bV d7 (bV d7 (bV d7 (ic rfl ?_))))))));refine nS (i:=0) (least:=8) hv cE hp rfl h1 hb λaV h2 b2=>eV n4 m4 h2 (show _=some (bv nn) from rfl) ((nE hn).go ?_);rw[mI];refine⟨by simp[IX];omega,?_⟩;refine kf [bo su,kL nn] (by simp[mW,bo,kL,IX,su]) (sc (jS _ d7) (sc (FT hn) sn)) d8 d8 h2 b2 λbG h3 b3=>aq.mk (hk _ (up _ _ ?_));rw[e];simpa using h3
end
end
def agi{b o:Nat}{aK aa:St}{v:AV}{D:List AV}{c gv:AV}{k:AV->Prop}(hg:gv=.bool true)(n4:b4≠b)(m4:aK.box b4=some D)(h':RS b v aK tk aa)(hc:D[o]?=some c)(hk:k c) :
 aI K gv (bu (some o) (.box b4 0)) (λv8=>aI K gv (bj (some (false,1)) v8 aa) k):=by
 have aA:=(dw.1 hc).1;have hd:D.drop (0+o)=c::D.drop (o+1):=by
  rw[cK,gI aA,(dw.1 hc).2]
 exact KV hg (h'.fr.bq n4 m4) hd hk
section
variable {b n:Nat}{U aj aK aa:St}{v:AV}{aS l rest:List Tx}{L:List Nd}{s t A B C:Tre}{x:aT}{nn m a:Int}
variable (hv:dz v L.length (bM L))(hL:L.length<=1000)
include hv hL
def abK(hn:ek nn)(hs:dP L n (.mk 26 x nn m a [])):p4 199 v n (.mk 26 x nn m a []):=by
 intro b aj U aS R h hb hk;have e:(Tre.mk 26 x nn m a []).pr=[kL nn]++[]:=by rw[Tre.ee];simp[c8]
 rw[e]at hb;refine pC ?_;dsimp only[uv,di,ae,bg,ak,uD,aQ,ah,dj,ar,eN,cJ,cG,aC,dr,dA,CE,gO,kT,mz,jl];refine gR hv hL hs h λb4 aK vk y hy n4 m4 cE h1 up=>eV n4 m4 h1 (show _=some (co 26) from rfl) ?_;refine ic rfl (eV n4 m4 h1 (show _=some (bv nn) from rfl) ((nE hn).go ?_));refine kf [kL nn] rfl (sc (FT hn) sn) d8 d8 h1 hb λbG h3 b3=>aq.mk (hk _ (up _ _ ?_));rw[e];simpa using h3
def zh(qY:(k,w)∈[((27:Int),eA),(28,eK),(29,gG),(30,iZ)])(hs:dP L n (.mk k x nn m a [])):p4 199 v n (.mk k x nn m a []):=by
 intro b aj U aS R h hb hk;have e:(Tre.mk k x nn m a []).pr=bo w::[]:=by
  rw[Tre.ee];simp only[dy,List.not_mem_nil,or_false,jK]at qY;rcases qY with ⟨rfl,rfl⟩|⟨rfl,rfl⟩|⟨rfl,rfl⟩|⟨rfl,rfl⟩<;>simp[c8]
 rw[e]at hb;have hw:w∈j0++fF:=by
  simp only[dy,List.not_mem_nil,or_false,jK]at qY;rcases qY with ⟨_,rfl⟩|⟨_,rfl⟩|⟨_,rfl⟩|⟨_,rfl⟩<;>decide
 refine pC ?_;dsimp only[uv,di,ae,bg,ak,uD,aQ,ah,dj,ar,eN,cJ,cG,aC,dr,dA,CE,gO,kT,mz,jl];refine gR hv hL hs h λb4 aK vk y hy n4 m4 cE h1 up=>eV n4 m4 h1 (show _=some (co k) from rfl) ?_;have fin:=mf (K':=λv U=>aq R (.az []) U) (Kp:=aD R) hw h1 hb λbG h3 b3=>aq.mk (hk _ (up _ _ (by rw[e];exact h3)));simp only[dy,List.not_mem_nil,or_false,jK]at qY;rcases qY with ⟨rfl,rfl⟩|⟨rfl,rfl⟩|⟨rfl,rfl⟩|⟨rfl,rfl⟩
 . exact bV d7 (ic rfl fin)
 . exact bV d7 (bV d7 (ic rfl fin))
 . exact bV d7 (bV d7 (bV d7 (ic rfl fin)))
 . exact bV d7 (bV d7 (bV d7 (bV d7 (ic rfl fin))))
def Vp(hx1:gr x)(hx0:x≠[])(hs:dP L n (.mk 31 x nn m a [])):p4 199 v n (.mk 31 x nn m a []):=by
 intro b aj U aS R h hb hk;have zG:=jJ hx1;have e:(Tre.mk 31 x nn m a []).pr=[bo lL,fp x]++[]:=by rw[Tre.ee];simp[c8]
 rw[e]at hb;refine pC ?_;dsimp only[uv,di,ae,bg,ak,uD,aQ,ah,dj,ar,eN,cJ,cG,aC,dr,dA,CE,gO,kT,mz,jl];refine gR hv hL hs h λb4 aK vk y hy n4 m4 cE h1 up=>eV n4 m4 h1 (show _=some (co 31) from rfl) ?_;refine bV d7 (bV d7 (bV d7 (bV d7 (bV d7 (ic rfl (eV n4 m4 h1 (show _=some (.str x) from rfl) ?_))))));rw[mI];refine⟨by simp[D8];omega,?_⟩;refine kf [bo lL,fp x] (by simp[mW,bo,fp,D8,lL]) (sc (jS _ d7) (sc (wE hx1 hx0) sn)) d8 d8 h1 hb λbG h3 b3=>aq.mk (hk _ (up _ _ ?_));rw[e];simpa using h3
def abJ(hx1:gr x)(hx0:x≠[])(hs:dP L n (.mk 32 x nn m a [])):p4 199 v n (.mk 32 x nn m a []):=by
 intro b aj U aS R h hb hk;have zG:=jJ hx1;have e:(Tre.mk 32 x nn m a []).pr=[bo ni,fp x]++[]:=by rw[Tre.ee];simp[c8]
 rw[e]at hb;refine pC ?_;dsimp only[uv,di,ae,bg,ak,uD,aQ,ah,dj,ar,eN,cJ,cG,aC,dr,dA,CE,gO,kT,mz,jl];refine gR hv hL hs h λb4 aK vk y hy n4 m4 cE h1 up=>eV n4 m4 h1 (show _=some (co 32) from rfl) ?_;refine bV d7 (bV d7 (bV d7 (bV d7 (bV d7 (bV d7 (ic rfl (eV n4 m4 h1 (show _=some (.str x) from rfl) ?_)))))));rw[mI];refine⟨by simp[Gl];omega,?_⟩;refine kf [bo ni,fp x] (by simp[mW,bo,fp,Gl,ni]) (sc (jS _ d7) (sc (wE hx1 hx0) sn)) d8 d8 h1 hb λbG h3 b3=>aq.mk (hk _ (up _ _ ?_));rw[e];simpa using h3
def Vq(h2:k=33\/k=37)(hx1:gr x)(hx0:x≠[])(hs:dP L n (.mk k x nn m a [])):p4 199 v n (.mk k x nn m a []):=by
 intro b aj U aS R h hb hk;have e:(Tre.mk k x nn m a []).pr=[fp x]++[]:=by rw[Tre.ee];rcases h2 with rfl|rfl<;>simp[c8]
 rw[e]at hb;refine pC ?_;dsimp only[uv,di,ae,bg,ak,uD,aQ,ah,dj,ar,eN,cJ,cG,aC,dr,dA,CE,gO,kT,mz,jl];refine gR hv hL hs h λb4 aK vk y hy n4 m4 cE h1 up=>eV n4 m4 h1 (show _=some (co k) from rfl) ?_;refine bV d6 (bV d6 (bV d6 (bV d6 (bV d6 (bV d6 (bV d6 ?_))))));intro j hj;have J:∀w,w=AV.bool true->j (.box b 0) (.box b4 0) vk (co k) w aK:=by
  rintro w rfl;refine hj _ _ _ _ _ _ (cO (eV n4 m4 h1 (show _=some (.str x) from rfl) ?_));refine kf [fp x] rfl (sc (wE hx1 hx0) sn) d8 d8 h1 hb λbG h3 b3=>aq.mk (hk _ (up _ _ ?_));rw[e];simpa using h3
 rcases h2 with rfl|rfl
 . exact ic rfl (J _ rfl)
 . refine bV d7 ?_;rw[aN,ad];exact J _ rfl
def Vo{ks:List Tre}(kH:ks.length<=900)(hx1:gr x)(hx0:x≠[])(hs:dP L n (.mk 34 x nn m a ks))(hp:gT v L (bH (n+1) ks) ks):p4 199 v n (.mk 34 x nn m a ks):=by
 intro b aj U aS R h hb hk;have zG:=jJ hx1;have e:(Tre.mk 34 x nn m a ks).pr=[fp x,bo dM]++(eH ep (ks.map Tre.pr)++(bo dE::[])):=by
  rw[Tre.ee];have e3:ks.map Tre.pr=(ks.map λt=>(t.kind,t.pr)).map (·.2):=by rw[List.map_map];rfl
  rw[e3];simp[c8]
 rw[e]at hb;refine pC ?_;dsimp only[uv,di,ae,bg,ak,uD,aQ,ah,dj,ar,eN,cJ,cG,aC,dr,dA,CE,gO,kT,mz,jl];refine gR hv hL hs h λb4 aK vk y hy n4 m4 cE h1 up=>eV n4 m4 h1 (show _=some (co 34) from rfl) ?_;refine bV d7 (bV d7 (bV d7 (bV d7 (bV d7 (bV d7 (bV d7 ?_))))));intro j hj;refine bV d7 ?_;rw[aN,ad,decide_eq_false d7];refine hj _ _ _ _ _ _ (cz (ic rfl (eV n4 m4 h1 (show _=some (.str x) from rfl) ?_)));rw[mI];refine⟨by simp[rD];omega,?_⟩;refine kf [fp x,bo dM] (by simp[mW,bo,fp,rD,dM]) (sc (wE hx1 hx0) (sc (jS _ d7) sn)) d8 d8 h1 hb λaV h2 b2=>?_;refine ED cE hp d6 h2 b2 λbG h3 b3=>mf d7 h3 b3 λcI h4 b4=>aq.mk (hk _ (up _ _ ?_));rw[e];simpa using h4
def afk{ps:List Tre}(kH:ps.length<=900)(hs:dP L n (.mk 35 x nn m a (ps++[B])))(hp:gT v L (bH (n+1) (ps++[B])) (ps++[B])):p4 199 v n (.mk 35 x nn m a (ps++[B])):=by
 intro b aj U aS R h hb hk;have e:(Tre.mk 35 x nn m a (ps++[B])).pr=[bo wJ,bo dM]++(eH ep (ps.map Tre.pr)++(bo dE::(dY B.kind 1 B.pr++[]))):=by
  rw[Tre.ee];have e1:(ps++[B]).map (λt=>(t.kind,t.pr))=(ps.map λt=>(t.kind,t.pr))++[(B.kind,B.pr)]:=by simp
  rw[e1];generalize hq:ps.map (λt=>(t.kind,t.pr))=q;have e3:ps.map Tre.pr=q.map (·.2):=by rw[<-hq,List.map_map];rfl
  rw[e3];simp[c8,pq]
 rw[e]at hb;have hlen:=hp.len;rw[dx,List.length_singleton]at hlen;obtain⟨sG,tZ⟩:=hp.app;have yU:=sG.len;have cD:bH (n+1) (ps++[B])≠[]:=λe=>by rw[e]at hlen;simp at hlen
 refine pC ?_;dsimp only[uv,di,ae,bg,ak,uD,aQ,ah,dj,ar,eN,cJ,cG,aC,dr,dA,CE,gO,kT,mz,jl];refine gR hv hL hs h λb4 aK vk y hy n4 m4 cE h1 up=>eV n4 m4 h1 (show _=some (co 35) from rfl) ?_;refine bV d7 (bV d7 (bV d7 (bV d7 (bV d7 (bV d7 (bV d7 ?_))))));intro j hj;refine bV d7 ?_;rw[aN,ad,decide_eq_false d7];refine hj _ _ _ _ _ _ (cz (bV d7 (ic rfl ?_)));refine kf [bo wJ,bo dM] rfl (sc (jS _ d7) (sc (jS _ d7) sn)) d8 d8 h1 hb λaV h2 b2=>?_;change dz vk (bH (n+1) (ps++[B])).length (dW (bH (n+1) (ps++[B]))) at cE;have pJ:(((bH (n+1) (ps++[B])).length:Int)-1)=((ps.length:Nat):Int):=by omega
 rw[cE.len,ad,s0,pJ];refine⟨aX d6 d6,?_⟩;refine mc (i:=0) (j:=ps.length) cE cD d6 d6 (gp _ _ _) rfl λc=>?_;rw[eR];refine ED (.inr ⟨_,rfl⟩) sG d6 h2 b2 λbG h3 b3=>mf d7 h3 b3 λcI h4 b4=>?_;rw[ad,s0,pJ];refine⟨aX d6 d6,?_⟩;refine nS (least:=1) (i:=ps.length) hv cE hp d8 h4 b4 λdc h5 b5=>aq.mk (hk _ (up _ _ ?_));rw[e];simpa using h5
def OT(hB1:B.pr=[fp B.text])(hx1:gr B.text)(hx0:B.text≠[])(hs:dP L n (.mk 36 x nn m a [A,B,C]))(hp:gT v L (bH (n+1) [A,B,C]) [A,B,C]):p4 199 v n (.mk 36 x nn m a [A,B,C]):=by
 intro b aj U aS R h hb hk;have zG:=jJ hx1;have e:(Tre.mk 36 x nn m a [A,B,C]).pr=[bo qP,bo vS]++(dY A.kind 1 A.pr++([bo dF,bo uB,fp B.text,bo sW]++(dY C.kind 1 C.pr++(bo sX::[])))):=by
  rw[Tre.ee];simp[c8,hB1]
 rw[e]at hb;refine pC ?_;dsimp only[uv,di,ae,bg,ak,uD,aQ,ah,dj,ar,eN,cJ,cG,aC,dr,dA,CE,gO,kT,mz,jl];refine gR hv hL hs h λb4 aK vk y hy n4 m4 cE h1 up=>eV n4 m4 h1 (show _=some (co 36) from rfl) ?_;refine bV d7 (bV d7 (bV d7 (bV d7 (bV d7 (bV d7 (bV d7 ?_))))));intro j hj;refine bV d7 ?_;rw[aN,ad,decide_eq_false d7];refine hj _ _ _ _ _ _ (cz (bV d7 (bV d7 (ic rfl ?_))));refine kf [bo qP,bo vS] rfl (sc (jS _ d7) (sc (jS _ d7) sn)) d8 d8 h1 hb λaV h2 b2=>?_;refine nS (least:=1) (i:=0) hv cE hp rfl h2 b2 λbG h3 b3=>?_;obtain⟨vl,gk⟩:=h3.ld;change dz vk (bH (n+1) [A,B,C]).length (dW (bH (n+1) [A,B,C])) at cE;have hl:=hp.len;obtain⟨q,hq⟩:∃q,(bH (n+1) [A,B,C])[1]?=some q:=⟨_,rfl⟩;obtain⟨_,_,z,hz,_,hzt⟩:=hp.nd 1 q B hq rfl;simp only[bL,ao];refine j9 (eQ gk rfl (aki (c:=1) cE hq (Sm (hv.Dl (U:=bG)) hz (show (dv z)[1]?=some (.str z.text) from rfl) ?_)));rw[hzt,sU];refine⟨by simp[rT];omega,?_⟩;rw[sU];refine⟨by simp[rT,Gk];omega,?_⟩;refine kf [bo dF,bo uB,fp B.text,bo sW] (by simp[mW,bo,fp,rT,Gk,dF,uB,sW]) (sc (jS _ d7) (sc (jS _ d7) (sc (wE hx1 hx0) (sc (jS _ d7) sn)))) d8 d8 h3 b3 λcI h4 b4=>?_;refine nS (least:=1) (i:=2) hv cE hp rfl h4 b4 λdc h5 b5=>mf d7 h5 b5 λjg h6 b6=>aq.mk (hk _ (up _ _ ?_));rw[e];simpa using h6
def Vn(iN:k=6\/k=7)(hn:ek nn)(hs:dP L n (.mk k x nn m a [])):p4 194 v n (.mk k x nn m a []):=by
 intro b aj U aS R h hb hk;have aa2:(mZ nn).length<=20:=pB 20 _;refine Km ?_;dsimp only[NC,fR,eh,di,ae,bg,ak,ah,dj,ar,eN,cJ,cG,bX,aC,dr,dA];refine gR hv hL hs h λb4 aK vk y hy n4 m4 cE h1 up=>?_;rcases iN with rfl|rfl
 . refine eV n4 m4 h1 (show _=some (co 6) from rfl) (Z8 rfl (agi rfl n4 m4 h1 (show _=some (bv nn) from rfl) ?_))
   by_cases c1:nn=1
   . subst c1;have e:(Tre.mk 6 x 1 m a []).pr=bo vR::[]:=by rw[Tre.ee];simp[c8]
     rw[e]at hb;exact wc rfl (Vl rfl (Gp (cO (mf d7 h1 hb λaV h2 b2=>aq.mk (hk _ (up _ _ (by rw[e];exact h2)))))))
   refine wc rfl ?_;rw[aN,ao,decide_eq_false c1];refine Gp (cz (eV n4 m4 h1 (show _=some (co 6) from rfl) (Z8 rfl (agi rfl n4 m4 h1 (show _=some (bv nn) from rfl) ?_))))
   by_cases c2:nn=2
   . subst c2;have e:(Tre.mk 6 x 2 m a []).pr=bo sN::[]:=by rw[Tre.ee];simp[c8]
     rw[e]at hb;exact wc rfl (Vl rfl (Gp (cO (mf d7 h1 hb λaV h2 b2=>aq.mk (hk _ (up _ _ (by rw[e];exact h2)))))))
   refine wc rfl ?_;rw[aN,ao,decide_eq_false c2];have e:(Tre.mk 6 x nn m a []).pr=[bo lq,kL nn]++[]:=by rw[Tre.ee];simp[c8,c1,c2]
   rw[e]at hb;refine Gp (cz (eV n4 m4 h1 (show _=some (co 6) from rfl) (ic rfl (eV n4 m4 h1 (show _=some (bv nn) from rfl) ((nE hn).go ?_)))));rw[mI];refine⟨by simp[Gn];omega,?_⟩;refine kf [bo lq,kL nn] (by simp[mW,bo,kL,Gn,lq]) (sc (jS _ d7) (sc (FT hn) sn)) d8 d8 h1 hb λbG h3 b3=>aq.mk (hk _ (up _ _ ?_));rw[e];simpa using h3
 . have e:(Tre.mk 7 x nn m a []).pr=[bo kh,kL nn]++[]:=by rw[Tre.ee];simp[c8]
   rw[e]at hb;refine eV n4 m4 h1 (show _=some (co 7) from rfl) (HP d7 (gM rfl (gM rfl (gM rfl (vu (cz ?_))))));refine eV n4 m4 h1 (show _=some (co 7) from rfl) (HP d7 (gM rfl (gM rfl (gM rfl (vu (cz ?_))))));refine eV n4 m4 h1 (show _=some (co 7) from rfl) (bV d7 (eV n4 m4 h1 (show _=some (co 7) from rfl) (ic rfl (eV n4 m4 h1 (show _=some (bv nn) from rfl) ((nE hn).go ?_)))));rw[mI];refine⟨by simp[D7];omega,?_⟩;refine kf [bo kh,kL nn] (by simp[mW,bo,kL,D7,kh]) (sc (jS _ d7) (sc (FT hn) sn)) d8 d8 h1 hb λbG h3 b3=>aq.mk (hk _ (up _ _ ?_));rw[e];simpa using h3
def Ss{ps:List Tre}(kH:ps.length<=900)(hB:fJ B.kind)(hs:dP L n (.mk 8 x nn m a (ps++[B])))(hp:gT v L (bH (n+1) (ps++[B])) (ps++[B])):p4 194 v n (.mk 8 x nn m a (ps++[B])):=by
 intro b aj U aS R h hb hk;have e:(Tre.mk 8 x nn m a (ps++[B])).pr=bo dM::(eH ep (ps.map Tre.pr)++([bo dE,bo gn]++(B.pr++[]))):=by
  rw[Tre.ee];have e1:(ps++[B]).map (λt=>(t.kind,t.pr))=(ps.map λt=>(t.kind,t.pr))++[(B.kind,B.pr)]:=by simp
  rw[e1];generalize hq:ps.map (λt=>(t.kind,t.pr))=q;have e3:ps.map Tre.pr=q.map (·.2):=by rw[<-hq,List.map_map];rfl
  rw[e3];simp[c8,pq]
 rw[e]at hb;have hlen:=hp.len;rw[dx,List.length_singleton]at hlen;obtain⟨sG,tZ⟩:=hp.app;have yU:=sG.len;have cD:bH (n+1) (ps++[B])≠[]:=λe=>by rw[e]at hlen;simp at hlen
 refine Km ?_;dsimp only[NC,fR,eh,di,ae,bg,ak,ah,dj,ar,eN,cJ,cG,bX,aC,dr,dA];refine gR hv hL hs h λb4 aK vk y hy n4 m4 cE h1 up=>?_;refine eV n4 m4 h1 (show _=some (co 8) from rfl) (HP d7 (gM rfl (gM rfl (gM rfl (vu (cz ?_))))));refine eV n4 m4 h1 (show _=some (co 8) from rfl) (HP d7 (gM rfl (gM rfl (gM rfl (vu (cz ?_))))));refine eV n4 m4 h1 (show _=some (co 8) from rfl) (bV d7 (eV n4 m4 h1 (show _=some (co 8) from rfl) (bV d7 ?_)));refine mf d7 h1 hb λaV h2 b2=>?_;change dz vk (bH (n+1) (ps++[B])).length (dW (bH (n+1) (ps++[B]))) at cE;have pJ:(((bH (n+1) (ps++[B])).length:Int)-1)=((ps.length:Nat):Int):=by omega
 rw[cE.len,ad,s0,pJ];refine⟨aX d6 d6,?_⟩;refine mc (i:=0) (j:=ps.length) cE cD d6 d6 (gp _ _ _) rfl λc=>?_;rw[eR];refine ED (.inr ⟨_,rfl⟩) sG d6 h2 b2 λbG h3 b3=>?_;refine kf [bo dE,bo gn] rfl (sc (jS _ d7) (sc (jS _ d7) sn)) d8 d8 h3 b3 λcI h4 b4=>?_;rw[ad,s0,pJ];refine⟨aX d6 d6,?_⟩;refine B8 (i:=ps.length) cE hp d8 hB h4 b4 λdc h5 b5=>aq.mk (hk _ (up _ _ ?_));rw[e];simpa using h5
def OQ(hA:fJ A.kind)(hx1:gr x)(hx0:x≠[])(hs:dP L n (.mk 2 x nn m a [A]))(hp:gT v L (bH (n+1) [A]) [A]):p4 192 v n (.mk 2 x nn m a [A]):=by
 intro b aj U aS R h hb hk;have zG:=jJ hx1;have e:(Tre.mk 2 x nn m a [A]).pr=[bo eD,fp x,bo ef]++(A.pr++(bo dF::[])):=by rw[Tre.ee];simp[c8]
 rw[e]at hb;refine Kl ?_;dsimp only[NB,di,ae,bg,ak,wM,aQ,ah,dj,ar,ca,eN,cJ,cG,aC,dr,dA];refine gR hv hL hs h λb4 aK vk y hy n4 m4 cE h1 up=>eV n4 m4 h1 (show _=some (co 2) from rfl) ?_;refine ic rfl (eV n4 m4 h1 (show _=some (.str x) from rfl) ?_);rw[mI];refine⟨by simp[vT];omega,?_⟩;rw[mI];refine⟨by simp[vT,vq];omega,?_⟩;refine kf [bo eD,fp x,bo ef] (by simp[mW,bo,fp,vT,vq,eD,ef]) (sc (jS _ d7) (sc (wE hx1 hx0) (sc (jS _ d7) sn))) d8 d8 h1 hb λaV h2 b2=>?_;refine B8 (i:=0) cE hp rfl hA h2 b2 λbG h3 b3=>mf d7 h3 b3 λcI h4 b4=>aq.mk (hk _ (up _ _ ?_));rw[e];simpa using h4
def abF{ps:List Tre}(Mg:k=3\/k=4)(kH:ps.length<=900)(hB:fJ B.kind)(hx1:gr x)(hx0:x≠[])(hs:dP L n (.mk k x nn m a (ps++[B,C])))(hp:gT v L (bH (n+1) (ps++[B,C])) (ps++[B,C])):p4 192 v n (.mk k x nn m a (ps++[B,C])):=by
 intro b aj U aS R h hb hk;have zG:=jJ hx1;have Mb:dY C.kind 0 C.pr=C.pr:=by unfold dY;rw[if_pos (Nat.zero_le _)]
 have e:(Tre.mk k x nn m a (ps++[B,C])).pr=[bo (if k=3 then jc else eW),fp x,bo dM]++(eH ep (ps.map Tre.pr)++([bo dE,bo ef]++(B.pr++(bo gH::(dY C.kind 0 C.pr++(bo dF::[])))))):=by
  rw[Tre.ee,Mb];have e1:(ps++[B,C]).map (λt=>(t.kind,t.pr))=(ps.map λt=>(t.kind,t.pr))++[(B.kind,B.pr),(C.kind,C.pr)]:=by simp
  rw[e1];generalize hq:ps.map (λt=>(t.kind,t.pr))=q;have e3:ps.map Tre.pr=q.map (·.2):=by rw[<-hq,List.map_map];rfl
  rw[e3];have el:(q++[(B.kind,B.pr),(C.kind,C.pr)]).length-2=q.length:=by simp
  have el1:(q++[(B.kind,B.pr),(C.kind,C.pr)]).length-1=q.length+1:=by simp
  rcases Mg with rfl|rfl<;>simp[c8,el,el1,pq]
 rw[e]at hb;have hlen:=hp.len;rw[dx,jm,List.length_singleton]at hlen;obtain⟨sG,tZ⟩:=hp.app;have yU:=sG.len;have cD:bH (n+1) (ps++[B,C])≠[]:=λe=>by rw[e]at hlen;simp at hlen
 refine Kl ?_;dsimp only[NB,di,ae,bg,ak,wM,aQ,ah,dj,ar,ca,eN,cJ,cG,aC,dr,dA];refine gR hv hL hs h λb4 aK vk y hy n4 m4 cE h1 up=>eV n4 m4 h1 (show _=some (co k) from rfl) ?_;refine bV d6 ?_;intro j hj;have body:∀w:aT,w=(if k=3 then Gm else zZ)->j (.box b 0) (.box b4 0) vk (.str w) aK:=by
  intro w hw;refine hj _ _ _ _ _ ?_;change dz vk (bH (n+1) (ps++[B,C])).length (dW (bH (n+1) (ps++[B,C]))) at cE;have qI:(((bH (n+1) (ps++[B,C])).length:Int)-2)=((ps.length:Nat):Int):=by omega
  have pJ:(((bH (n+1) (ps++[B,C])).length:Int)-1)=((ps.length+1:Nat):Int):=by omega
  rw[cE.len,ad];refine eV n4 m4 h1 (show _=some (.str x) from rfl) ?_;have PV:w.length<=10:=by subst hw;split<;>decide
  rw[mI];refine⟨d6,?_⟩;rw[mI];refine⟨by simp[rD];omega,?_⟩;have aa4:(w++x)++rD=mW [bo (if k=3 then jc else eW),fp x,bo dM]:=by
   subst hw;rcases Mg with rfl|rfl
   . simp[mW,bo,fp,Gm,rD,jc,dM]
   . simp[mW,bo,fp,zZ,rD,eW,dM]
  refine kf [bo (if k=3 then jc else eW),fp x,bo dM] aa4 (sc (jS _ (by split<;>decide)) (sc (wE hx1 hx0) (sc (jS _ d7) sn))) d8 d8 h1 hb λaV h2 b2=>?_
  rw[s0,qI];refine⟨aX d6 d6,?_⟩;refine mc (i:=0) (j:=ps.length) cE cD d6 d6 (gp _ _ _) rfl λc=>?_;rw[eR];refine ED (.inr ⟨_,rfl⟩) sG d6 h2 b2 λbG h3 b3=>?_;refine kf [bo dE,bo ef] rfl (sc (jS _ d7) (sc (jS _ d7) sn)) d8 d8 h3 b3 λcI h4 b4=>?_;rw[s0,qI];refine⟨aX d6 d6,?_⟩;refine B8 (i:=ps.length) cE hp d8 hB h4 b4 λdc h5 b5=>mf d7 h5 b5 λjg h6 b6=>?_;rw[s0,pJ];refine⟨aX d6 d6,?_⟩;refine nS (least:=0) (i:=ps.length+1) hv cE hp d8 h6 b6 λgZ h7 b7=>mf d7 h7 b7 λpE h8 b8=>aq.mk (hk _ (up _ _ ?_));rw[e];simpa using h8
 refine eV n4 m4 h1 (show _=some (co k) from rfl) ?_;rcases Mg with rfl|rfl
 . exact bV d7 (body _ rfl)
 . exact ic rfl (body _ rfl)
end
def uq(k:Int):FuncId:=if jI k=true then 192 else if fJ k=true then 194 else if er k=1 then 197 else if er k<9 then 198 else 199
section
variable {b n:Nat}{U aj aK aa:St}{v:AV}{aS l rest:List Tx}{L:List Nd}{s t A B C:Tre}{x:aT}{nn m a:Int}
variable (hv:dz v L.length (bM L))(hL:L.length<=1000)
include hv hL
def Nn(hs:dP L n s)(h5:s.kind≠5)(h9:s.kind≠9)(hf:p4 (uq s.kind) v n s):CH v n s:=by
 intro b aj U aS R h hb hk;refine DX ?_;dsimp only[HA,di,ae,bg,ak,uC,fU,aQ,ah,dj,ar,ca,eN,cJ,cG,dr,dA];refine gR hv hL hs h λb4 aK vk y hy n4 m4 cE h1 up=>eV n4 m4 h1 (show _=some (co s.kind) from rfl) ((vJ s.kind).go ?_);have call:∀f,uq s.kind=f->ag K f [.box b 0,bv (n:Nat)] aK (bD (λsd U=>aq R (AV.az []) U) (aD R)):=by
  intro f TX;rw[<-TX];exact hf _ _ _ _ _ h1 hb λaa h'=>aq.mk (hk _ (up _ _ h'))
 cases c1:jI s.kind with
 | true=>exact cO (call 192 (by unfold uq;rw[if_pos c1]))
 | false =>
 refine cz (eV n4 m4 h1 (show _=some (co s.kind) from rfl) (bV h5 (eV n4 m4 h1 (show _=some (co s.kind) from rfl) ((zI s.kind).go ?_))));cases c2:fJ s.kind with
 | true=>exact cO (call 194 (by unfold uq;rw[if_neg (by simp[c1]),if_pos c2]))
 | false =>
 have Js:uq s.kind=if er s.kind=1 then 197 else if er s.kind<9 then 198 else 199:=by
  unfold uq;rw[if_neg (by simp[c1]),if_neg (by simp[c2])]
 refine cz (eV n4 m4 h1 (show _=some (co s.kind) from rfl) (bV h9 (eV n4 m4 h1 (show _=some (co s.kind) from rfl) ((zS s.kind).go ?_))))
 by_cases c3:er s.kind=1
 . exact ic d6 (call 197 (by rw[Js,if_pos c3]))
 refine bV d6 (eV n4 m4 h1 (show _=some (co s.kind) from rfl) ((zS s.kind).go ?_));rw[aY,ad];refine df (λh'=>call 198 (by rw[Js,if_neg c3,if_pos d6])) λh'=>call 199 (by rw[Js,if_neg c3,if_neg d6])
def Sr(hA:fJ A.kind)(hx1:gr x)(hx0:x≠[])(hs:dP L n (.mk 5 x nn m a [A]))(hp:gT v L (bH (n+1) [A]) [A]):CH v n (.mk 5 x nn m a [A]):=by
 intro b aj U aS R h hb hk;have zG:=jJ hx1;have e:(Tre.mk 5 x nn m a [A]).pr=[fp x,bo ef]++(A.pr++[]):=by rw[Tre.ee];simp[c8]
 rw[e]at hb;refine DX ?_;dsimp only[HA,di,ae,bg,ak,uC,fU,aQ,ah,dj,ar,ca,eN,cJ,cG,dr,dA];refine gR hv hL hs h λb4 aK vk y hy n4 m4 cE h1 up=>eV n4 m4 h1 (show _=some (co 5) from rfl) ((vJ 5).go (cz ?_));refine eV n4 m4 h1 (show _=some (co 5) from rfl) (ic rfl (eV n4 m4 h1 (show _=some (.str x) from rfl) ?_));rw[mI];refine⟨by simp[vq];omega,?_⟩;refine kf [fp x,bo ef] (by simp[mW,bo,fp,vq,ef]) (sc (wE hx1 hx0) (sc (jS _ d7) sn)) d8 d8 h1 hb λaV h2 b2=>?_;refine B8 (i:=0) cE hp rfl hA h2 b2 λbG h3 b3=>aq.mk (hk _ (up _ _ ?_));rw[e];simpa using h3
def abE(kH:ts.length<=900)(hs:dP L n (.mk 9 x nn m a ts))(hp:gT v L (bH (n+1) ts) ts):CH v n (.mk 9 x nn m a ts):=by
 intro b aj U aS R h hb hk;have e:(Tre.mk 9 x nn m a ts).pr=eH dF (ts.map λt=>dY t.kind 1 t.pr):=by
  rw[Tre.ee];simp only[c8,List.map_map];rfl
 rw[e]at hb;refine DX ?_;dsimp only[HA,di,ae,bg,ak,uC,fU,aQ,ah,dj,ar,ca,eN,cJ,cG,dr,dA];refine gR hv hL hs h λb4 aK vk y hy n4 m4 cE h1 up=>eV n4 m4 h1 (show _=some (co 9) from rfl) ((vJ 9).go (cz ?_));refine eV n4 m4 h1 (show _=some (co 9) from rfl) (bV d7 (eV n4 m4 h1 (show _=some (co 9) from rfl) ((zI 9).go (cz ?_))));refine eV n4 m4 h1 (show _=some (co 9) from rfl) (ic rfl ?_);change dz vk (bH (n+1) ts).length (dW (bH (n+1) ts)) at cE;have hlen:=hp.len;generalize bH (n+1) ts=ks at cE hp hlen;have hk:∀aa,RS b v aK (aS++eH dF (ts.map λt=>dY t.kind 1 t.pr)) aa->R (.ret (.az [])) aa:=λaa h'=>hk aa (up _ _ (by rw[e];exact h'));refine⟨λm w0 w1 w4 aa=>∃i:Nat,m=ks.length-i/\i<=ks.length/\w0=.box b 0/\w1=vk/\w4=bv (i:Nat)/\RS b v aK (aS++eH dF ((ts.map λt=>dY t.kind 1 t.pr).take i)) aa,⟨_,0,rfl,d6,rfl,rfl,rfl,by simpa [eH] using h1⟩,?_⟩;rintro m w0 w1 w4 aV ⟨i,rfl,hi,rfl,rfl,rfl,h2⟩;rw[cE.len,ad,aY,ad];refine df (λaA=>?_) λgL=>?_
 . have aA:i<ks.length:=by omega
   obtain⟨q,hq⟩:∃q,ks[i]?=some q:=⟨ks[i],by simp[aA]⟩;obtain⟨t,ht⟩:∃t,ts[i]?=some t:=⟨ts[i]'(by omega),by simp[show i<ts.length by omega]⟩;have qJ:(ts.map λt=>dY t.kind 1 t.pr)[i]?=some (dY t.kind 1 t.pr):=by simp[ht]
   have kI:(ts.map λt=>dY t.kind 1 t.pr).take (i+1)=(ts.map λt=>dY t.kind 1 t.pr).take i++[dY t.kind 1 t.pr]:=by rw[nP,qJ];rfl
   have hle:=DW dF (ts.map λt=>dY t.kind 1 t.pr) (i+1);have fi:=hb;rw[dx]at fi;intro j hj;have tail:∀(tk:List Tx)(aa:St),RS b v aK tk aa->tk++dY t.kind 1 t.pr=aS++eH dF ((ts.map λt=>dY t.kind 1 t.pr).take (i+1))->j (.box b 0) w1 (bv (i:Nat)) aa:=by
    intro tk aa h' e;refine hj _ _ _ _ (nS (least:=1) (rest:=[]) hv cE hp ht h' (by rw[iM,e,dx];omega) λbG h3 b3=>?_);rw[cF];exact⟨aX d6 d6,ks.length-(i+1),d6,i+1,rfl,d6,rfl,rfl,d8,by rw[<-e];exact h3⟩
   rw[dq,ad];refine df (λAu=>?_) λhng=>?_
   . have cD:(ts.map λt=>dY t.kind 1 t.pr).take i≠[]:=λe=>by
      have:=congrArg List.length e;rw[List.length_take,List.length_map,nQ]at this;omega
     have rZ:=DV dF (dY t.kind 1 t.pr) cD;rw[kI]at hle tail;rw[rZ]at hle tail;refine mf (w:=dF) (rest:=dY t.kind 1 t.pr) d7 h2 (by simp at hb hle ⊢;omega) λbG h3 _=>?_;exact tail _ bG h3 d8
   . have sE:i=0:=by omega
     subst sE;exact tail _ aV h2 (by rw[kI];simp[eH])
 . have hi:i=ks.length:=by omega
   subst hi;rw[pO (by simp;omega)]at h2;exact aq.mk (hk _ h2)
def afq{s:Tre}(hs:dP L n s)(h9:s.flat.length<=900)(ho:s.ok)(h1:s.kind≠1)(hp:gT v L (bH (n+1) s.kids) s.kids):CH v n s/\(fJ s.kind->Pc v n s):=by
 cases s with
 | mk k x nn m a ks =>
   obtain⟨fo,gY,g1,g2,g3⟩:=Tre.BN ho;obtain⟨f1,f2,f3,f4,f5,f6⟩:=qW g1;have hlen:(Tre.cH ks).length+1=(Tre.mk k x nn m a ks).flat.length:=by rw[Tre.gQ];simp
   have kH:ks.length<=900:=by have:=Tre.pA ks;omega
   have hp:gT v L (bH (n+1) ks) ks:=hp;have ox:k≠1:=h1;have hk:k=2\/(k=3\/k=4)\/k=5\/(k=6\/k=7)\/k=8\/k=9\/k=10\/k=11\/k=15\/k=12\/k=13\/k=14\/k=16\/(k=17\/k=18\/k=20\/k=21\/k=22\/k=23\/k=24)\/k=19\/k=25\/k=26\/(k=27\/k=28\/k=29\/k=30)\/k=31\/k=32\/(k=33\/k=37)\/k=34\/k=35\/k=36:=by
    by_cases hr:2<=k/\k<=37
    . omega
    . exfalso;unfold bS at gY;rw[if_neg d6,if_neg d6,if_neg d6,if_neg d6,if_neg d6,if_neg d6,if_neg d6,if_neg d6,if_neg d6,if_neg d6,if_neg d6,if_neg d6,if_neg d6,if_neg d6,if_neg d6,if_neg d6,if_neg d6,if_neg d6,if_neg d6,if_neg d6,if_neg d6]at gY;cases gY
   have nil:dB (ks.map Tre.kind) []=true->ks=[]:=λh=>by
    have:(ks.map Tre.kind).isEmpty:=h;simpa using this
   have via:∀f,uq k=f->k≠5->k≠9->fJ k=false->p4 f v n (.mk k x nn m a ks)->CH v n (.mk k x nn m a ks)/\(fJ (Tre.mk k x nn m a ks).kind->Pc v n (.mk k x nn m a ks)):=by
    intro f hf h5 h9 hty hfn;subst hf;exact⟨Nn hv hL hs h5 h9 hfn,λh=>by rw[show (Tre.mk k x nn m a ks).kind=k from rfl,hty]at h;cases h⟩
   have aht:uq k=194->k≠5->k≠9->p4 194 v n (.mk k x nn m a ks)->CH v n (.mk k x nn m a ks)/\(fJ (Tre.mk k x nn m a ks).kind->Pc v n (.mk k x nn m a ks)):=by
    intro hf h5 h9 hfn;exact⟨Nn hv hL hs h5 h9 (by rw[show (Tre.mk k x nn m a ks).kind=k from rfl,hf];exact hfn),λ_=>hfn⟩
   rcases hk with rfl|hk|rfl|hk|rfl|rfl|rfl|rfl|rfl|rfl|rfl|rfl|rfl|hk|rfl|rfl|rfl|hk|rfl|rfl|hk|rfl|rfl|rfl
   . obtain rfl:(⟨true,false,false,[⟨.type,1,1⟩]⟩:iQ)=fo:=by simpa [bS] using gY
     obtain⟨A,rfl,hA⟩:=oW g2;exact via 192 rfl d7 d7 rfl (OQ hv hL hA (f2 rfl).2 (f2 rfl).1 hs hp)
   . have nv:fo=⟨true,false,false,[⟨.kind 5,0,900⟩,⟨.base,1,1⟩,⟨.term,1,1⟩]⟩:=by rcases hk with rfl|rfl<;>simpa [bS] using gY.symm
     subst nv;obtain⟨ps,B,C,rfl,_,_,hB,_⟩:=BH d6 g2;have hB:fJ B.kind:=by
      have h:jH B.kind:=hB;unfold jH at h;unfold fJ;rw[dU]at h ⊢;omega
     have hf:uq k=192:=by rcases hk with rfl|rfl<;>rfl
     have ht:fJ k=false:=by rcases hk with rfl|rfl<;>rfl
     exact via 192 hf d6 d6 ht (abF hv hL hk (by simp at kH;omega) hB (f2 rfl).2 (f2 rfl).1 hs hp)
   . obtain rfl:(⟨true,false,false,[⟨.type,1,1⟩]⟩:iQ)=fo:=by simpa [bS] using gY
     obtain⟨A,rfl,hA⟩:=oW g2;exact⟨Sr hv hL hA (f2 rfl).2 (f2 rfl).1 hs hp,λh=>by cases h⟩
   . have nv:fo=⟨false,true,false,[]⟩:=by rcases hk with rfl|rfl<;>simpa [bS] using gY.symm
     subst nv;obtain rfl:=nil g2;have hf:uq k=194:=by rcases hk with rfl|rfl<;>rfl
     exact aht hf d6 d6 (Vn hv hL hk f3 hs)
   . obtain rfl:(⟨false,false,false,[⟨.base,2,900⟩]⟩:iQ)=fo:=by simpa [bS] using gY
     obtain⟨hl,hc⟩:=K2 g2;obtain⟨ps,B,rfl⟩:=oE (l:=ks) d6;have hB:fJ B.kind:=by
      have h:jH B.kind:=hc B d8;unfold jH at h;unfold fJ;rw[dU]at h ⊢;omega
     exact aht rfl d7 d7 (Ss hv hL (by simp at kH;omega) hB hs hp)
   . exact⟨abE hv hL kH hs hp,λh=>by cases h⟩
   . obtain rfl:(⟨false,false,false,[⟨.term,3,3⟩]⟩:iQ)=fo:=by simpa [bS] using gY
     obtain⟨A,B,C,rfl,hA,hB,hC⟩:=adj g2;exact via 197 rfl d7 d7 rfl (afi hv hL hs hp)
   . obtain rfl:(⟨false,false,false,[⟨.term,2,2⟩]⟩:iQ)=fo:=by simpa [bS] using gY
     obtain⟨A,B,rfl,hA,hB⟩:=BG g2;exact via 197 rfl d7 d7 rfl (Sv hv hL hs hp)
   . obtain rfl:(⟨false,false,false,[⟨.term,2,2⟩]⟩:iQ)=fo:=by simpa [bS] using gY
     obtain⟨A,B,rfl,hA,hB⟩:=BG g2;exact via 197 rfl d7 d7 rfl (OR hv hL hs hp)
   . obtain rfl:(⟨true,true,true,[⟨.term,1,1⟩]⟩:iQ)=fo:=by simpa [bS] using gY
     obtain⟨A,rfl,hA⟩:=oW g2;exact via 197 rfl d7 d7 rfl (abG hv hL (f2 rfl).2 (f2 rfl).1 f3 f4 hs hp)
   . obtain rfl:(⟨true,false,false,[⟨.term,2,2⟩]⟩:iQ)=fo:=by simpa [bS] using gY
     obtain⟨A,B,rfl,hA,hB⟩:=BG g2;exact via 197 rfl d7 d7 rfl (Su hv hL (f2 rfl).2 (f2 rfl).1 hs hp)
   . obtain rfl:(⟨true,true,false,[⟨.term,1,1⟩]⟩:iQ)=fo:=by simpa [bS] using gY
     obtain⟨A,rfl,hA⟩:=oW g2;exact via 197 rfl d7 d7 rfl (OS hv hL (f2 rfl).2 (f2 rfl).1 f3 hs hp)
   . obtain rfl:(⟨true,false,false,[⟨.term,1,1⟩]⟩:iQ)=fo:=by simpa [bS] using gY
     obtain⟨A,rfl,hA⟩:=oW g2;exact via 197 rfl d7 d7 rfl (abH hv hL (f2 rfl).2 (f2 rfl).1 hs hp)
   . have nv:fo=⟨false,false,false,[⟨.term,2,2⟩]⟩:=by
      rcases hk with rfl|rfl|rfl|rfl|rfl|rfl|rfl<;>simpa [bS] using gY.symm
     subst nv;obtain⟨A,B,rfl,hA,hB⟩:=BG g2;rcases hk with rfl|rfl|rfl|rfl|rfl|rfl|rfl
     . exact via 198 rfl d7 d7 rfl (tj hv hL (w:=wL) (lf:=2) (rt:=3) d8 hs hp)
     . exact via 198 rfl d7 d7 rfl (tj hv hL (w:=sY) (lf:=3) (rt:=4) d8 hs hp)
     . exact via 198 rfl d7 d7 rfl (tj hv hL (w:=gH) (lf:=6) (rt:=6) d8 hs hp)
     . exact via 198 rfl d7 d7 rfl (tj hv hL (w:=pX) (lf:=6) (rt:=6) d8 hs hp)
     . exact via 198 rfl d7 d7 rfl (tj hv hL (w:=pW) (lf:=6) (rt:=7) d8 hs hp)
     . exact via 198 rfl d7 d7 rfl (tj hv hL (w:=oY) (lf:=6) (rt:=7) d8 hs hp)
     . exact via 198 rfl d7 d7 rfl (tj hv hL (w:=qO) (lf:=7) (rt:=8) d8 hs hp)
   . obtain rfl:(⟨false,false,false,[⟨.term,1,1⟩]⟩:iQ)=fo:=by simpa [bS] using gY
     obtain⟨A,rfl,hA⟩:=oW g2;exact via 198 rfl d7 d7 rfl (abI hv hL hs hp)
   . obtain rfl:(⟨false,true,false,[⟨.term,1,1⟩]⟩:iQ)=fo:=by simpa [bS] using gY
     obtain⟨A,rfl,hA⟩:=oW g2;exact via 198 rfl d7 d7 rfl (afj hv hL f3 hs hp)
   . obtain rfl:(⟨false,true,false,[]⟩:iQ)=fo:=by simpa [bS] using gY
     obtain rfl:=nil g2;exact via 199 rfl d7 d7 rfl (abK hv hL f3 hs)
   . have nv:fo=⟨false,false,false,[]⟩:=by rcases hk with rfl|rfl|rfl|rfl<;>simpa [bS] using gY.symm
     subst nv;obtain rfl:=nil g2;rcases hk with rfl|rfl|rfl|rfl
     . exact via 199 rfl d7 d7 rfl (zh hv hL (w:=eA) d8 hs)
     . exact via 199 rfl d7 d7 rfl (zh hv hL (w:=eK) d8 hs)
     . exact via 199 rfl d7 d7 rfl (zh hv hL (w:=gG) d8 hs)
     . exact via 199 rfl d7 d7 rfl (zh hv hL (w:=iZ) d8 hs)
   . obtain rfl:(⟨true,false,false,[]⟩:iQ)=fo:=by simpa [bS] using gY
     obtain rfl:=nil g2;exact via 199 rfl d7 d7 rfl (Vp hv hL (f2 rfl).2 (f2 rfl).1 hs)
   . obtain rfl:(⟨true,false,false,[]⟩:iQ)=fo:=by simpa [bS] using gY
     obtain rfl:=nil g2;exact via 199 rfl d7 d7 rfl (abJ hv hL (f2 rfl).2 (f2 rfl).1 hs)
   . have nv:fo=⟨true,false,false,[]⟩:=by rcases hk with rfl|rfl<;>simpa [bS] using gY.symm
     subst nv;obtain rfl:=nil g2;have hf:uq k=199:=by rcases hk with rfl|rfl<;>rfl
     have ht:fJ k=false:=by rcases hk with rfl|rfl<;>rfl
     exact via 199 hf d6 d6 ht (Vq hv hL hk (f2 rfl).2 (f2 rfl).1 hs)
   . obtain rfl:(⟨true,false,false,[⟨.arg,1,900⟩]⟩:iQ)=fo:=by simpa [bS] using gY
     exact via 199 rfl d7 d7 rfl (Vo hv hL kH (f2 rfl).2 (f2 rfl).1 hs hp)
   . obtain rfl:(⟨false,false,false,[⟨.kind 37,1,900⟩,⟨.term,1,1⟩]⟩:iQ)=fo:=by simpa [bS] using gY
     obtain⟨ps,B,rfl,hl,_,hB⟩:=Hb d6 g2;exact via 199 rfl d7 d7 rfl (afk hv hL (by simp at kH;omega) hs hp)
   . obtain rfl:(⟨false,false,false,[⟨.term,1,1⟩,⟨.kind 37,1,1⟩,⟨.term,1,1⟩]⟩:iQ)=fo:=by simpa [bS] using gY
     obtain⟨A,B,C,rfl,hA,hB,hC⟩:=P9 g2;have hBo:=g3 B d8;have ajr:B.kind=37:=of_decide_eq_true hB;obtain⟨b1,b2,b3⟩:B.pr=[fp B.text]/\gr B.text/\B.text≠[]:=by
      cases B with
      | mk k' x' n' m' a' ks' =>
        obtain rfl:k'=37:=ajr;obtain⟨fo',ajD,g1',_,_⟩:=Tre.BN hBo;obtain rfl:(⟨true,false,false,[]⟩:iQ)=fo':=by simpa [bS] using ajD
        obtain⟨_,q2,_⟩:=qW g1';exact⟨by rw[Tre.ee];rfl,(q2 rfl).2,(q2 rfl).1⟩
     exact via 199 rfl d7 d7 rfl (OT hv hL b1 b2 b3 hs hp)
def Kc:∀(N:Nat)(s:Tre)(n:Nat),s.flat.length<=N->dP L n s->s.flat.length<=900->s.ok->s.kind≠1->CH v n s/\(fJ s.kind->Pc v n s)
 | 0,s,n,hN,_,_,_,_=>by have:=s.eC;omega
 | N+1,s,n,hN,hs,h9,ho,h1=>by
   have hk:=AJ ho;have p6:=lQ s;refine afq hv hL hs h9 ho h1 ⟨iw _ _,λi q t hq ht=>?_⟩;obtain⟨u,hu,G5⟩:=oG hs.kids hq;rw[ht]at hu;obtain rfl:t=u:=by simpa using hu
   have hm:=fT ht;have aA:=Tre.Dk hm;obtain⟨k1,k2⟩:=hk t hm;obtain⟨x,hx,p9,_,Up,_⟩:=G5.oS;obtain⟨r1,r2⟩:=Kc N t q d6 G5 d6 k2 k1;exact⟨r1,r2,x,hx,p9,Up⟩
end
def OV(a b:Tk):Pure K 201 [.agg (jD a),.agg (jD b)] (.bool (p5 (tx a) (tx b))):=by
 refine Pure.of rfl rfl (λU=>rfl) λR hR=>?_;refine Yr ?_;dsimp only[Yq,fR,eh,lN,jr,wX,fe,bg,ah,ar,dI,bX];rw[fg rfl];intro b2 iq;have m2:((cj ⟨.e,0⟩).new b2 (.box (al (.agg (jD a))))).box b2=some (jD a):=aH;generalize (cj _).new b2 _=aj at *;rw[fg rfl];intro b3 kF;have m3:(aj.new b3 (.box (al (.agg (jD b))))).box b3=some (jD b):=aH;have m2:=(bK kF (x:=.box (al (.agg (jD b))))).bq m2;generalize aj.new b3 _=aK at *;have e1:∀n:Nat,decide ((n:Int)=4)=(n==4):=λn=>by
  rw[oN,dU,beq_iff_eq];omega
 have e2:∀s t:aT,decide (s=t)=(s==t):=λs t=>by
  by_cases h:s=t<;>simp[h]
 have we:∀r,r=p5 (tx a) (tx b)->∀aa,R (.ret (.bool r)) aa:=λr h=>by subst h;exact hR
 unfold p5 at we;have ha:(tx a).1=a.k/\(tx a).2=a.s:=⟨rfl,rfl⟩;have hb:(tx b).1=b.k/\(tx b).2=b.s:=⟨rfl,rfl⟩;rw[ha.1,ha.2,hb.1,hb.2]at we;have rest:∀v12,v12=AV.bool (a.k != 4&&b.k != 4) ->
  aI K (cq v12 false) (bu (some 1) (.box b2 0)) (λD5 =>
  aI K (cq v12 false) (bj (some (false,1)) D5 aK) (λnT =>
  aI K (cq v12 false) (bU .eql (BT.mk false false false none false) true nT (AV.str ef)) (λA7 =>
  aI K (cq v12 false) (aW.val A7) (λzn =>
  aI K (cq zn true) (bu (some 1) (.box b3 0)) (λzo =>
  aI K (cq zn true) (bj (some (false,1)) zo aK) (λrB =>
  aI K (cq zn true) (bU .eql (BT.mk false false false none false) true rB (AV.str gH)) (λv20 =>
  aI K (cq v12 false) (fP zn v20 (AV.bool false)) (λv21 =>
  (fP v12 (AV.bool true) v21).wp K aK (λtO U =>
  aq R tO U) (aD R))))))))):=by
  rintro v12 rfl;cases h0:(a.k != 4&&b.k != 4) with
  | true =>
    refine gM rfl (gM rfl (gM rfl (gM rfl (gM rfl (gM rfl (gM rfl (gM rfl (Gp (aq.mk (we _ ?_ _))))))))));rw[h0];rfl
  | false =>
    rw[h0,Bool.false_or]at we;refine KV rfl m2 rfl (wc rfl ?_);rw[hU,ao,e2];cases h1:(a.s==ef) with
    | true =>
      rw[h1,Bool.true_and]at we;refine eZ rfl rfl (KV rfl m3 rfl (wc rfl ?_));rw[hU,ao,e2];exact wc rfl (wG (vu (aq.mk (we _ rfl _))))
    | false =>
      rw[h1,Bool.false_and]at we;refine eZ rfl rfl (gM rfl (gM rfl (gM rfl (wc rfl (wF (vu (aq.mk (we _ rfl _))))))))
 refine gw (dN m2 rfl ?_);rw[ck,ad,e1];cases h1:(a.k==4) with
 | true =>
   refine gM rfl (gM rfl (gM rfl (vu (rest _ ?_))));simp only[bne,h1,cL,Bool.false_and]
 | false =>
   refine KV rfl m3 rfl (wc rfl ?_);rw[ck,ao,e1];refine Gp (rest _ ?_);simp only[bne,h1,dS,Bool.true_and]
section
variable {U aa:St}{vl:AV}{L:List Tk}{R:bi}
def Gc{x:Tk}(h:L[i]?=some x):∃r,(gu L).drop (i*3)=jD x++r:=by
 rw[Kw,gI (dw.1 h).1];refine⟨gu (L.drop (i+1)),?_⟩;have:=(dw.1 h).2;simp[gu,this]
def akH{x:Tk}{Kp:am}(hv:dz vl L.length (gu L))(hx:L[i]?=some x)(hk:K' (.agg (jD x)) U) :
 (bJ (some (51,3)) none vl (bv (i:Nat))).wp K U (λp U=>(bj (some (true,3)) p U).wp K U K' Kp) Kp:=by
 have aA:=(dw.1 hx).1;obtain⟨r,hr⟩:=Gc hx;rcases hv with ⟨h1,_,_⟩|⟨c,rfl⟩
 . omega
 . rw[sv,ez,hr];refine⟨d6,?_⟩;rw[tP];exact⟨by simp[jD],hk⟩
def ai1{x:Tk}{Kp:am}(hv:dz vl L.length (gu L))(hx:L[i]?=some x)(hk:K' (.str x.s) U) :
 (bJ (some (51,3)) none vl (bv (i:Nat))).wp K U (λp U=>(bu (some 1) p).wp K U (λq U=>(bj (some (false,1)) q U).wp K U K' Kp) Kp) Kp:=by
 have aA:=(dw.1 hx).1;obtain⟨r,hr⟩:=Gc hx;rcases hv with ⟨h1,_,_⟩|⟨c,rfl⟩
 . omega
 . rw[sv,ez,hr];refine⟨d6,?_⟩;simp only[dX,ad];rw[ln];exact hk
def agq{x:Tk}{gv:AV}{k:AV->Prop}(hg:gv=.bool true)(hv:dz vl L.length (gu L))(hx:L[i]?=some x)(hk:k (.agg (jD x))) :
 aI K gv (bJ (some (51,3)) none vl (bv (i:Nat))) λp=>aI K gv (bj (some (true,3)) p U) k:=by
 have aA:=(dw.1 hx).1;obtain⟨r,hr⟩:=Gc hx;subst hg;simp only[aw,bO];rcases hv with ⟨h1,_,_⟩|⟨c,rfl⟩
 . omega
 . rw[Nk,ez,hr];refine⟨d6,?_⟩;rw[IF];exact⟨by simp[jD],hk⟩
def abR(hv:dz vl L.length (gu L))(ho:∀x∈L,o5 (tx x))(hl:L.length<=1000000)(h:R (.ret (bv (if 900<L.length then 5 else 0))) U):ag K 200 [vl] U R:=by
 refine Yp ?_;dsimp only[Yo,ae,ak,mR,aQ,ah,dj,ar,ca,eN,cJ,fW];rw[hv.len,ad,dq,ad];refine df (λh9=>?_) λh9=>?_
 . rw[if_pos d6]at h;exact aq.mk h
 rw[if_neg d6]at h;refine⟨λm w0 w3 aa=>∃i:Nat,m=L.length-i/\i<=L.length/\w0=vl/\w3=bv (i:Nat)/\aa=U,⟨_,0,rfl,d6,rfl,rfl,rfl⟩,?_⟩;rintro m w0 w3 aa ⟨i,rfl,hi,rfl,rfl,rfl⟩;rw[hv.len,ad,aY,ad];refine df (λaA=>?_) λgL=>aq.mk h;have aA:i<L.length:=by omega
 obtain⟨x,hx⟩:∃x,L[i]?=some x:=⟨L[i],by simp[aA]⟩;have JE:=ho x (fT hx);have AA:=vp JE;have hp:=Dj x.k x.s x.at_ (by have:x.s.length<=12:=AA;omega);have hd:decide (x.s≠[]/\hY x.s=(0,x.k,x.s)):=decide_eq_true ⟨JE.1,JE.2⟩;rw[hd]at hp;refine akH hv hx (hp.go ?_);simp only[db,ad,cL];refine cz ?_;rw[cF];exact⟨aX d6 d6,L.length-(i+1),d6,i+1,rfl,d6,rfl,d8,rfl⟩
def VA(hv:dz vl L.length (gu L))(ho:∀x∈L,o5 (tx x))(hl:L.length<=1000000)(h:R (.ret (.az [.str (eU (L.map tx)).1,bv (eU (L.map tx)).2])) U):ag K 129 [vl] U R:=by
 refine WB ?_;dsimp only[WA,QP,eh,lM,se,cU,ae,bg,ak,uC,fU,aQ,ah,ar,ca,eN,cJ,aC,kT,qm];refine abR hv ho hl ?_;rw[bh,ck,ad];have PJ:(L.map tx).length=L.length:=by simp
 by_cases h9:900<L.length
 . have hE:eU (L.map tx)=([],5):=by unfold eU;rw[PJ,if_pos h9]
   rw[if_pos h9];simp only[show decide ((5:Int)=0)=false from rfl,dS];refine cO (aq.mk ?_);rw[hE]at h;exact h
 rw[if_neg h9];simp only[cC,cL];refine cz ?_;have ub:∀i,(gE ((L.map tx).take i)).length<=13*L.length:=λi=>by
  have:=D4 ((L.map tx).take i) λx hx=>by
   obtain⟨y,hy,rfl⟩:=List.mem_map.1 (List.mem_of_mem_take hx);exact ho y hy
  rw[List.length_take,PJ]at this;omega
 refine⟨λm w0 w5 w6 aa=>∃i:Nat,m=L.length-i/\i<=L.length/\w0=vl/\w5=.str (gE ((L.map tx).take i))/\w6=bv (i:Nat)/\aa=U,⟨_,0,rfl,d6,rfl,rfl,rfl,rfl⟩,?_⟩;rintro m w0 w5 w6 aa ⟨i,rfl,hi,rfl,rfl,rfl,rfl⟩;rw[hv.len,ad,aY,ad];refine df (λaA=>?_) λgL=>?_
 . have aA:i<L.length:=by omega
   obtain⟨x,hx⟩:∃x,L[i]?=some x:=⟨L[i],by simp[aA]⟩;have lJ:(L.map tx)[i]?=some (tx x):=by simp[hx]
   have JE:=ho x (fT hx);have AA:x.s.length<=12:=vp JE;have hti:=ub i;intro j hj;have tail:∀s:aT,s++x.s=gE ((L.map tx).take (i+1))->s.length<=100000->j w0 (.str s) (bv (i:Nat)) aa:=by
    intro s e hs;refine hj _ _ _ _ (ai1 hv hx ?_);rw[mI];refine⟨d6,?_⟩;rw[cF];exact⟨aX d6 d6,L.length-(i+1),d6,i+1,rfl,d6,rfl,by rw[e],d8,rfl⟩
   have kI:(L.map tx).take (i+1)=(L.map tx).take i++[tx x]:=by rw[nP,lJ];rfl
   by_cases sE:i=0
   . subst sE;refine ag7 d6 (gM rfl (gM rfl (gM rfl (gM rfl (gM rfl (gM rfl (gM rfl (gM rfl (gM rfl (gM rfl (wF (cz (tail _ ?_ d6)))))))))))));rw[kI];simp[gE,tx]
   . obtain⟨y,hy⟩:∃y,L[i-1]?=some y:=⟨L[i-1]'(by omega),by simp[show i-1<L.length by omega]⟩;have Df:(L.map tx)[i-1]?=some (tx y):=by simp[hy]
     have hc:(i:Int)-1=((i-1:Nat):Int):=by omega
     have rZ:=Ca ((L.map tx).take (i-1)) (tx y) (tx x);have ht1:(L.map tx).take (i-1)++[tx y]=(L.map tx).take i:=by
      have:=nP (l:=L.map tx) (i:=i-1);rw[Df,show i-1+1=i by omega]at this;rw[this];rfl
     have PT:(L.map tx).take (i-1)++[tx y,tx x]=(L.map tx).take (i+1):=by rw[kI,<-ht1];simp
     rw[ht1,PT]at rZ;refine ag8 d6 (eZ rfl rfl (eZ rfl rfl (wc rfl ?_)));rw[La,hc];refine⟨aX d6 d6,agq rfl hv hy (eZ rfl rfl (eZ rfl rfl (agq rfl hv hx (wc rfl (jV (OV y x) (wG ?_))))))⟩;cases L9:p5 (tx y) (tx x) with
     | true =>
       rw[L9,if_pos rfl]at rZ;refine cO ?_;rw[mI];exact⟨by rw[show SR.length=1 from rfl];omega,tail _ (by rw[rZ];rfl) (by rw[dx,show SR.length=1 from rfl];omega)⟩
     | false =>
       rw[L9,if_neg d8,iM]at rZ;exact cz (tail _ (by rw[rZ];rfl) d6)
 . have hi:i=L.length:=by omega
   subst hi;have aif:(L.map tx).take L.length=L.map tx:=by rw[<-PJ,oO]
   rw[aif];rw[show dK (some true) (AV.str (gE (L.map tx)))=.val (bv (gE (L.map tx)).length) from rfl,ad,dq,ad];unfold eU at h;rw[PJ,if_neg h9]at h;refine df (λAo=>?_) λAo=>?_
   . rw[if_pos d6]at h;exact aq.mk h
   . rw[if_neg d6]at h;exact aq.mk h
end
section
variable {v:AV}{L l:List Nd}{s:Tre}{n:Nat}
def DR(hv:Sl v L)(hL:L.length<=1000)(hs:dP L n s)(h9:s.flat.length<=900)(ho:s.ok)(h1:s.kind≠1):Pure K 66 [v,bv (n:Nat)] (.az [.str (eU s.pr).1,bv (eU s.pr).2]):=by
 have oy:=Vg ho;refine Pure.of (by have:=hv.cl;simp[cW,closed]at this ⊢;exact this) rfl (λU=>rfl) λR hR=>?_;refine ack ?_;dsimp only[adO,ae,bg,ah,dI,cG,aC,dm];obtain⟨l1,l2⟩:=QB hv;refine jC [v,.af] (by simp[ta,ax,l1,l2]) ?_;rw[fg rfl];intro b hb;have m:((cj ⟨.e,0⟩).new b (.box (al (.agg [v,.af])))).box b=some [v,.af]:=aH;have hP:RS b v ((cj ⟨.e,0⟩).new b (.box (al (.agg [v,.af])))) [] ((cj ⟨.e,0⟩).new b (.box (al (.agg [v,.af])))):=⟨⟨.af,[],rfl,m,gi.nil (xi _)⟩,Fr.refl _ _⟩;generalize (cj _).new b _=aj at *;refine (Kc hv.s hL _ s n (da _) hs h9 ho h1).1 b aj aj [] _ hP (by unfold NT;simp;omega) λaK hQ=>?_;rw[mQ]at hQ;obtain⟨⟨vl,L2,e,mC,g⟩,_⟩:=hQ;rw[bh];simp only[bL,ad];refine gw (dN mC rfl ?_);have hl:L2.length=s.pr.length:=by rw[<-e];simp
 refine VA g.sl (λx hx=>Sg _ s (da _) ho _ (by rw[<-e];exact List.mem_map_of_mem hx)) d6 ?_;rw[e];simp only[bh,bN,List.drop,bI];exact aq.mk (hR _)
def afF{t:Tre}(ho:t.ok)(hn:n<t.flat.length)(h0:n≠0)(hs:dP t.flat n s):s.ok/\s.kind≠1:=by
 obtain⟨_,h⟩:=place t hn;rcases h with h|⟨i',s',aA,fj,hk⟩
 . exact absurd h h0
 . obtain⟨q,hq⟩:=List.mem_iff_getElem?.1 hk;obtain⟨u,hu,G5⟩:=oG fj.kids hq;rw[hs.inj G5];obtain⟨k1,k2⟩:=AJ (HF ho fj) u (fT hu)
   first
    | exact⟨k2,k1⟩
    | exact⟨k1,k2⟩
def SA(hv:Sl v l)(hl:l.length<=1000)(mT:∀x∈l,x.text.length<=3000)(p:Int):Pure K 29 [.agg [v],bv p] (.az [.str (nY l p).1,bv (nY l p).2]):=by
 refine Pure.of (by simp[cW,hv.cl,show closed (bv p) from rfl]) rfl (λU=>rfl) λR hR=>?_;refine ab2 ?_;dsimp only[adx,jN,ae,lD,bg,ak,gX,aQ,ah,dj,ar,ca,dI,cJ,aC,dm,od,mz,oe,HW];rw[fg rfl];intro b1 gz;have m1:((cj ⟨.e,0⟩).new b1 (.box (al (.agg [v])))).box b1=some [v]:=aH;generalize (cj _).new b1 _=aj at *;refine rU m1 ((aaj hv d6 mT p).go (HQ ?_))
 by_cases ha:lO l p=0
 rotate_left
 . simp only[ha,cZ,dS];refine cO (aq.mk ?_);have:=hR aj;rwa [D2 ha]at this
 simp only[ha,cC,cL];refine cz ?_;obtain⟨n,t,s,rfl,rfl,h1,h2,h3,hs⟩:=I7 ha;have hc:iU t.flat=0:=Classical.not_not.1 λhc=>by rw[xJ hc]at ha;exact hc ha
 have hS:=Ku ha hs;rw[hS]at hR;have hle:=hs.le;have Jx:t.flat.length<=900:=by
  refine Nat.le_of_not_lt λh'=>?_;have hc:iU t.flat=5:=by unfold iU;rw[if_pos h']
  rw[xJ (by rw[hc];decide),hc]at ha;cases ha
 have hn:n<t.flat.length:=by have:=s.eC;omega
 rw[dq,ad];refine df (λtc=>?_) λhnp=>?_
 . obtain⟨ho,ox⟩:=afF (by simpa using h2) hn d6 hs;have hT:pT s=eU s.pr:=by unfold pT;rw[if_pos ox]
   rw[hT]at hR;refine gw (dN m1 rfl ((DR hv d6 hs d6 ho ox).go ?_));simp only[bN,List.drop,bI];exact aq.mk (hR _)
 have Ay:n=0:=by omega
 subst Ay;obtain rfl:s=t:=hs.inj (dP.whole t);obtain⟨t',e',k1,k2,k9,kd,k24⟩:=To hc;obtain rfl:=Tre.LP e';obtain⟨xY,a,hta⟩:=Vh k1 k2 k9;have hT:pT s=kr s.kids []:=by unfold pT;rw[if_neg (by simp[k1])]
 rw[hT]at hR;refine gw (dN m1 rfl ?_);refine AK (i:=0) (hv.ir _) (dP.whole s) d6 λaK vk g=>?_;rw[bh];have m1:=g.ex.bq m1;have p8:=g.sl;rw[<-iw (0+1) s.kids]at p8;have kH:(bH (0+1) s.kids).length=s.kids.length:=iw _ _;have Jq:∀{i k:Nat},(bH (0+1) s.kids)[i]?=some k->∃u,s.kids[i]?=some u/\dP s.flat k u:=λh=>oG (dP.whole s).kids h;generalize bH (0+1) s.kids=ks at *;refine⟨λm w2 w7 w8 w9 aa=>∃(i:Nat)(all:aT),m=ks.length-i/\i<=ks.length/\w2=.box b1 0/\w7=.str all/\w8=vk/\w9=bv (i:Nat)/\aa=aK/\kr s.kids []=kr (s.kids.drop i) all/\all.length<=2501*i,⟨_,0,[],rfl,d6,rfl,rfl,rfl,rfl,rfl,rfl,d8⟩,?_⟩;rintro m w2 w7 w8 w9 aa ⟨i,all,rfl,hi,rfl,rfl,rfl,rfl,rfl,uX,Jp⟩;rw[p8.len,ad,aY,ad];refine df (λaA=>?_) λgL=>?_
 . have aA:i<ks.length:=by omega
   obtain⟨k,hk⟩:∃k,ks[i]?=some k:=⟨ks[i],by simp[aA]⟩;obtain⟨u,hu,Mz⟩:=Jq hk;obtain⟨Uj,JD,hu3⟩:=xY u (fT hu);have hu4:u.kind≠1:=λh=>by rw[h]at JD;exact absurd JD d7
   have Bp:s.kids.drop i=u::s.kids.drop (i+1):=by
    have e:s.kids[i]'(by omega)=u:=(dw.1 hu).2;rw[<-e,<-gI]
   rw[Bp,B9]at uX;refine j9 (eQ m1 rfl (aiG p8 hk λD=>?_));refine (DR hv d6 Mz hu3 Uj hu4).go ⟨λ_ _=>rfl,?_⟩;simp only[bN,List.drop,gg];refine HQ ?_
   by_cases he:(eU u.pr).2=0
   rotate_left
   . rw[if_pos he]at uX;simp only[he,cZ,dS];refine cO (aq.mk ?_);have:=hR aa;rwa [uX]at this
   rw[if_neg (by simp[he])]at uX;simp only[he,cC,cL];refine cz ?_;obtain⟨e1,_,e2⟩:=Kv he;rw[mI];refine⟨by rw[e1,show pV.length=1 from rfl];omega,?_⟩;rw[mI];refine⟨by rw[e1,dx,show pV.length=1 from rfl];omega,?_⟩;rw[cF];refine⟨aX d6 d6,ks.length-(i+1),d6,i+1,_,rfl,d6,rfl,rfl,rfl,d8,rfl,?_,?_⟩
   . rw[uX,<-lG];rfl
   . rw[e1,dx,dx,show pV.length=1 from rfl];omega
 . have Bp:s.kids.drop i=[]:=List.drop_eq_nil_of_le d6;rw[Bp,kr]at uX;rw[uX]at hR;rw[show dK (some true) (AV.str all)=.val (bv all.length) from rfl,ad,dq,ad];refine df (λAo=>?_) λAo=>?_
   . rw[if_pos d6]at hR;exact aq.mk (hR _)
   . rw[if_neg d6]at hR;exact aq.mk (hR _)
def O0(hv:Sl v l)(hl:l.length<=1000)(mT:∀x∈l,x.text.length<=3000):Pure K 27 [.agg [v]] (.az [.str (nY l 0).1,bv (nY l 0).2]):=by
 refine Pure.of (by simp[cW,hv.cl]) rfl (λU=>rfl) λR hR=>?_;refine ab0 ?_;dsimp only[adu,ae,ah,dj,dI,dm];rw[fg rfl];intro b1 gz;have m1:((cj ⟨.e,0⟩).new b1 (.box (al (.agg [v])))).box b1=some [v]:=aH;generalize (cj _).new b1 _=aj at *;refine rU m1 ((SA hv hl mT 0).go ?_);simp only[bN,List.drop,bI];exact aq.mk (hR _)
end
def Sl.lie{v:AV}{l:List Nd}(h:Sl v l):v.dC/\al v=[v]:=by
 rcases h.s with ⟨_,_,rfl⟩|⟨c,rfl⟩<;>exact⟨rfl,rfl⟩
def afw{v1 v2:AV}{l1 l2:List Nd}(c1:Sl v1 l1)(c2:Sl v2 l2)(h1:l1.length<=1000000)(h2:l2.length<=1000000):Pure K 22 [.agg [v1],.agg [v2]] (.bool (decide (l1=l2))):=by
 refine Pure.of (by simp[cW,c1.cl,c2.cl]) rfl (λU=>rfl) λR hR=>?_;refine NG ?_;dsimp only[SF,ae,bg,ah,dI];have k1:=c1.lie.2;have k2:=c2.lie.2;rw[fg rfl];intro b1 gz;rw[fg rfl];intro b2 iq;have m1:((cj ⟨.e,0⟩).new b1 (.box (al (.agg [v1])))).box b1=some [v1]:=aH;have MV:=(bK iq (x:=.box (al (.agg [v2])))).bq m1;have m2:(((cj ⟨.e,0⟩).new b1 (.box (al (.agg [v1])))).new b2 (.box (al (.agg [v2])))).box b2=some [v2]:=aH;generalize ((cj _).new b1 _).new b2 _=U at *;simp only[aP,ad,cK];refine dN MV rfl ?_;refine dN m2 rfl ?_;exact Qw (c1.ir _) (c2.ir _) h1 h2 (aq.mk (hR _))
end Go.Rip
set_option maxRecDepth 100000
namespace Go.Rip
open Go.Proofs Go.RowKit
def LX{gv:AV}{k:AV->Prop}{b:Nat}{v:AV}{U:St}(hg:gv=.bool true)(hb:U.box b=some [v])(h:k (.agg [v])):aI K gv (bj (some (true,1)) (.box b 0) U) k:=by
 subst hg;simp only[aw,bO];rw[B0 hb];exact⟨d8,h⟩
def QN{i:IntKind}{x y:Int}{b:Bool}{bt:BT}{U:St}{j Kp:am}(h:x=y)(hk:j (.bool false) U):(bU .neq bt b (.int i x) (.int i y)).wp K U j Kp:=by rw[ck,ad,decide_eq_true h];exact hk
def afv{aj U:St}{R:bi}{w:AV}{l:List Nd}(h:Gs aj U w l)(hl:l.length<=1000000)(hR:R (.ret (.bool true)) U):ag K 22 [.agg [w],.agg [gq l]] U R:=by
 have hx:resolve 4 U w=gq l:=by
  rcases h with ⟨rfl,rfl⟩|⟨b,rfl,hb,_,h0⟩
  . rfl
  . exact Fs (n:=2) hb h0
 refine ag.IH 5 vF (args0:=[.agg [gq l],.agg [gq l]]) (λg vs hr=>?_) (by simp[cW,closed,vC]) rfl (show Pure K 22 _ (.bool true) from by simpa using VD l l hl hl) hR;have e:([AV.agg [w],AV.agg [gq l]]).map (resolve 5 U)=[.agg [gq l],.agg [gq l]]:=by
  show [AV.agg [resolve 4 U w],AV.agg [resolve 4 U (gq l)]]=_;rw[hx,Nr 2]
 rw[e]at hr;exact hr
def OL(s:aT){v:AV}{l:List Nd}(hv:Sl v l):Pure K 5 [.str s,.agg [v]] (.bool true):=by
 refine Pure.of (by simp[cW,hv.cl,show closed (.str s) from rfl]) rfl (λU=>rfl) λR hR=>?_;refine ace ?_;dsimp only[adI,CC,Bf,wW,wY,fe,ae,bg,ak,aec,aed,aef,ahH,aQ,ah,dj,ar,ca,cw,eN,dI,cJ,bX,cn,aC,dm,dr,dA];rw[fg rfl];intro b3 kF;have m3:((cj ⟨.e,0⟩).new b3 (.box (al (.agg [v])))).box b3=some [v]:=aH;generalize (cj _).new b3 _=aj at *;rw[ia,ad];refine yF ?_
 by_cases h3:3000<(s.length:Int)
 . rw[decide_eq_true h3];exact gM rfl (gM rfl (gM rfl (Gp (cO (Bj.go (aq.mk (hR _)))))))
 rw[decide_eq_false h3];refine LX rfl m3 (wc rfl (jV (ZT hv) (wc rfl ?_)));rw[db,ao];cases ht:vO l with
 | false=>exact vu (cO (Bj.go (aq.mk (hR _))))
 | true =>
 refine vu (cz ?_);obtain⟨hl,mT⟩:=D3.1 ht;have mT:∀x∈l,x.text.length<=3000:=λx hx=>by have:=mT x hx;omega
 have cl:=Tr hv d6;have cv:=Qh l;have hs:s.length<=3000:=by omega
 refine rU m3 (cl.go ?_);rw[dh];intro b5 kZ;have m5:(aj.new b5 (.box [AV.af])).box b5=some [.af]:=aH;have n53:=kZ.cA m3;have m3:=(bK kZ (x:=.box [AV.af])).bq m3;generalize aj.new b5 _=aK at *;rw[cV m5];refine⟨⟨rfl,rfl,d8⟩,?_⟩;have m3:(aK.set b5 (.box (ax [AV.af] 0 (al (.agg [gq l]))))).box b3=some [v]:=by rw[bf n53];exact m3
 have m5:(aK.set b5 (.box (ax [AV.af] 0 (al (.agg [gq l]))))).box b5=some [gq l]:=by rw[aZ];rfl
 generalize aK.set b5 _=aV at *;refine (OZ s hs).go ?_;obtain⟨u,p,e,hp⟩:∃l p e,nL s=(l,p,e):=⟨_,_,_,rfl⟩;have hul:u.length<=1000000:=by have:=Sb s;rw[hp]at this;exact this
 rw[hp];simp only[Hp,bN,List.drop,bI];rw[dh];intro b6 tC;have m6:(aV.new b6 (.box [AV.af])).box b6=some [.af]:=aH;have n63:=tC.cA m3;have n65:=tC.cA m5;have m3:=(bK tC (x:=.box [AV.af])).bq m3;have m5:=(bK tC (x:=.box [AV.af])).bq m5;generalize aV.new b6 _=bG at *;rw[cV m6];refine⟨⟨rfl,rfl,d8⟩,?_⟩;have m3:(bG.set b6 (.box (ax [AV.af] 0 (al (.agg [gq u]))))).box b3=some [v]:=by rw[bf n63];exact m3
 have m5:(bG.set b6 (.box (ax [AV.af] 0 (al (.agg [gq u]))))).box b5=some [gq l]:=by rw[bf n65];exact m5
 have m6:(bG.set b6 (.box (ax [AV.af] 0 (al (.agg [gq u]))))).box b6=some [gq u]:=by rw[aZ];rfl
 generalize bG.set b6 _=cI at *;refine rU m3 ((O0 hv hl mT).go ?_);simp only[bN,List.drop,bI];clear kF kZ tC n53 n63 n65;refine⟨λm v0 v3 v5 v6 v7 v8 v9 v10 v11 aa=>∃i:Nat,m=2-i/\i<=2/\v0=.str s/\v3=.box b3 0/\v5=.box b5 0/\v6=.box b6 0/\v7=bv p/\v8=bv e/\v9=.str (nY l 0).1/\v10=bv (nY l 0).2/\v11=bv (i:Nat)/\aa.box b3=some [v]/\aa.box b5=some [gq l]/\aa.box b6=some [gq u],⟨_,0,rfl,d6,rfl,rfl,rfl,rfl,rfl,rfl,rfl,rfl,rfl,m3,m5,m6⟩,?_⟩;rintro m v0 v3 v5 v6 v7 v8 v9 v10 v11 dc ⟨i,rfl,hi,rfl,rfl,rfl,rfl,rfl,rfl,rfl,rfl,rfl,m3,m5,m6⟩;rw[aY,ad];refine df (λaA=>?_) λ_=>Bj.go (aq.mk (hR _));refine Vc s hs λjg w e6 hm=>?_;rw[hp]at hm ⊢;rw[bh];simp only[bN,List.drop,bI];have ne:∀{b:Nat}{L:List AV}{bw:Nat},dc.box b=some L->dc.live bw=none->b≠bw:=λh k e=>cN h (e▸k);have k3:=e6.bq m3;have k5:=e6.bq m5;have k6:=e6.bq m6;rw[dh];intro rX wB;have m12:(jg.new rX (.box [AV.af])).box rX=some [.af]:=aH;have q3:=wB.cA k3;have q5:=wB.cA k5;have q6:=wB.cA k6;have hx0:=bK wB (x:=.box [AV.af]);have k3:=hx0.bq k3;have k5:=hx0.bq k5;have k6:=hx0.bq k6;have hm:=hm.set (dt.refl dc) (bG:=(jg.new rX (.box [AV.af])).set rX (.box [w])) λb L h1 h2=>by
  rw[bf (wB.cA h2)];exact hx0.bq h2
 have nw:∀b n,w=.ms b 0 n 6 43->b≠rX:=λb n h=>by
  rcases hm with ⟨rfl,_⟩|⟨b',rfl,fi,_,_⟩
  . cases h
  . cases h;rintro rfl;rw[aZ]at fi;have h6:=congrArg List.length (Option.some.inj fi);rw[gb,List.length_singleton]at h6;omega
 generalize jg.new rX _=gZ at *;rw[cV m12];have es:ax [AV.af] 0 (al (.agg [w]))=[w]:=rfl;rw[es];refine⟨⟨rfl,rfl,d8⟩,?_⟩;have k3:(gZ.set rX (.box [w])).box b3=some [v]:=by rw[bf q3];exact k3
 have k5:(gZ.set rX (.box [w])).box b5=some [gq l]:=by rw[bf q5];exact k5
 have k6:(gZ.set rX (.box [w])).box b6=some [gq u]:=by rw[bf q6];exact k6
 have ML:(gZ.set rX (.box [w])).box rX=some [w]:=aZ;generalize gZ.set rX _=pE at *;intro j hj;refine QN rfl (eZ rfl rfl (eZ rfl rfl (wc rfl (ag9 rfl (vu (LX rfl ML (LX rfl k6 (cO ?_))))))));refine afv hm hul ?_;rw[bh];refine wc rfl ?_;rw[db,ao];refine vu (hj _ _ _ _ _ _ _ _ _ _ _ _ (cz ?_));clear hj;have hw:∃n:Nat,n<=1000000/\dK (some false) w=.val (bv n)/\∀k:Nat,k<n->∃b L,w=.ms b 0 n 6 43/\pE.box b=some L/\L.length=6*n/\b≠b3/\b≠b5/\b≠b6/\b≠rX:=by
  rcases hm with ⟨rfl,_⟩|⟨b,rfl,hb,hf,_⟩
  . exact⟨0,d6,rfl,λk h=>by omega⟩
  . exact⟨_,hul,rfl,λk h=>⟨b,_,rfl,hb,gb u,(ne m3 hf).symm,(ne m5 hf).symm,(ne m6 hf).symm,nw b _ rfl⟩⟩
 obtain⟨n,hn,hlw,hwr⟩:=hw;clear hm nw;refine⟨λm v0 v3 v5 v6 v7 v8 v9 v10 v11 v12 nT aa=>∃k:Nat,m=n-k/\k<=n/\v0=.str s/\v3=.box b3 0/\v5=.box b5 0/\v6=.box b6 0/\v7=bv p/\v8=bv e/\v9=.str (nY l 0).1/\v10=bv (nY l 0).2/\v11=bv (i:Nat)/\v12=.box rX 0/\nT=bv (k:Nat)/\aa.box b3=some [v]/\aa.box b5=some [gq l]/\aa.box b6=some [gq u]/\aa.box rX=some [w] /\
  ∀k:Nat,k<n->∃b L,w=.ms b 0 n 6 43/\aa.box b=some L/\L.length=6*n/\b≠b3/\b≠b5/\b≠b6/\b≠rX,⟨_,0,rfl,d6,rfl,rfl,rfl,rfl,rfl,rfl,rfl,rfl,rfl,rfl,rfl,k3,k5,k6,ML,hwr⟩,?_⟩
 clear hwr k3 k5 k6 ML;rintro m v0 v3 v5 v6 v7 v8 v9 v10 v11 v12 nT rF ⟨k,rfl,hk,rfl,rfl,rfl,rfl,rfl,rfl,rfl,rfl,rfl,rfl,rfl,k3,k5,k6,ML,hwr⟩;refine gw (dN ML rfl ?_);rw[hlw,ad,aY,ad];refine df (λhkn=>?_) λhkn=>?_
 . obtain⟨b,L,rfl,hb,hL,c3,c5,c6,c12⟩:=hwr k d6;refine gw (dN ML rfl ?_);rw[xr,ez,cK];refine⟨⟨d6,d6,rfl⟩,gw ?_⟩;rw[cV hb];refine⟨⟨rfl,rfl,d6⟩,?_⟩;have qI:(ax L (k*6+1) (al (.str w_z))).length=6*n:=by simp[ax,al,hL];omega
   rw[cF];refine⟨aX d6 d6,n-(k+1),d6,k+1,rfl,d6,rfl,rfl,rfl,rfl,rfl,rfl,rfl,rfl,rfl,rfl,rfl,?_,?_,?_,?_,λ_ _=>⟨b,_,rfl,aZ,qI,c3,c5,c6,c12⟩⟩
   . rw[bf c3.symm];exact k3
   . rw[bf c5.symm];exact k5
   . rw[bf c6.symm];exact k6
   . rw[bf c12.symm];exact ML
 refine rU k5 ((Sh cv hl mT).go ?_);simp only[bN,List.drop,bI];intro j hj;refine QN rfl (eZ rfl rfl (eZ rfl rfl (wc rfl (aha rfl (vu (LX rfl k5 (LX rfl k3 (cO ?_))))))));refine (show Pure K 22 _ (.bool true) from by simpa using afw cv hv d6 d6).go ?_;refine wc rfl ?_;rw[db,ao];refine vu (hj _ _ _ _ _ _ _ _ _ _ _ (cz ?_));rw[cF];exact⟨aX d6 d6,2-(i+1),d6,i+1,rfl,d6,rfl,rfl,rfl,rfl,rfl,rfl,rfl,rfl,rfl,k3,k5,k6⟩
end Go.Rip
