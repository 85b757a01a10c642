import Derived.Test.YtnfpmiiopiinbaaGreatDoorYc
import Derived.Test.YtnfpmiiopiinbaaGreatDoorYe
set_option linter.all false
namespace Go.Rip
open Go.Proofs Go.RowKit
def ag6:DD=opsV:=by rfl
def mx(x:Tx):List AV:=[co x.1,.str x.2,bv 0]
def pU(l:List Tx):List AV:=l.flatMap mx
def O9(a b:List Tx):pU (a++b)=pU a++pU b:=by simp[pU]
def acT(x:Tx):pU [x]=mx x:=by simp[pU]
def Fr(b:Nat)(U aa:St):Prop:=∀c x,c≠b->U.live c=some x->(∀t,x=.tok t->t.e≠51)->aa.live c=some x
variable {K' Kp:am}{R:bi}
section
variable {b c:Nat}{U aj aK aa:St}{v:AV}{aS l rest:List Tx}
def Fr.refl(b:Nat)(U:St):Fr b U U:=λ_ _ _ h _=>h
def Fr.trans(h:Fr b U aK)(k:Fr b aK aa):Fr b U aa:=λc x n e t=>k c x n (h c x n e t) t
def Fr.mV(h:dt U aa):Fr b U aa:=λc x _ e _=>h c x e
def Fr.bq(h:Fr b U aa)(n:c≠b){y:List AV}(k:U.box c=some y):aa.box c=some y:=by
 cases e:U.live c with
 | none=>simp[St.box,e]at k
 | some x =>
   rw[eE ((h c x n e ?_).trans e.symm)];exact k;intro t ht;subst ht;simp[St.box,e]at k
structure PS (b:Nat) (v:AV) (aj:St) (aS:List Tx) (U:St):Prop where
 box:∃vl,U.box b=some [v,vl,opsV]/\gi (cj ⟨.e,0⟩) U vl 51 3 aS.length (pU aS)
 fr:Fr b aj U
def NT:Nat:=1000000
def PS.mono(h:PS b v aj aS U)(e:dt U aa):PS b v aj aS aa:=by
 obtain⟨⟨vl,h1,h2⟩,h3⟩:=h;exact⟨⟨vl,e.bq h1,h2.mono e⟩,h3.trans (.mV e)⟩
def PS.AS(h:PS b v aj aS U):PS b v U aS U:=⟨h.box,Fr.refl _ _⟩
def PS.app(h:PS b v aj aS U)(k:PS b v U l aa):PS b v aj l aa:=⟨k.box,h.fr.trans k.fr⟩
def IE{x:Tx}{y:AV}{K':am}{Kp:am}(h:PS b v aj aS U)(hb:aS.length<=NT)(hy:y=.vec 1 .full (mx x)){vl:AV}(gk:U.box b=some [v,vl,opsV])
 (hk:∀aa yA,gi (cj ⟨.e,0⟩) aa yA 51 3 (aS.length+1) (pU (aS++[x]))->aa.box b=some [v,vl,opsV]->Fr b U aa->aa.live b=U.live b->K' yA aa):(dH (some (51,3)) false vl y U).wp K U K' Kp:=by
 obtain⟨⟨yA,h1,h2⟩,h3⟩:=h;rw[gk]at h1;obtain rfl:vl=yA:=by simpa using h1
 subst hy;unfold NT at hb;refine yC h2 (m:=1) (l2:=mx x) rfl rfl d6 d6 λaa w g k=>?_;have iV:∀{c z},U.live c=some z->(∀t,z=.tok t->t.e≠51)->∀n l,vl≠.vec n (.own c) l:=λhz ht n l hv=>by
  rcases h2.g with ⟨_,_,h3⟩|⟨τ,r1,r2,_⟩
  . rw[h3]at hv;cases hv
  . rw[r1]at hv;cases hv;unfold St.tok at r2;rw[hz]at r2;split at r2
    . rename_i t e;cases e;cases r2;exact ht _ rfl rfl
    . cases r2
 have hbk:=(ly h2.g k).1 gk;refine hk aa w (by rw[O9,acT];exact g) hbk (λc z _ hz ht=>k c z (iV hz ht) hz) ?_;cases e:U.live b with
 | none=>exact absurd e (cN gk)
 | some z =>
   refine k b z (iV e λt ht=>?_) e;subst ht;simp[St.box,e]at gk
def F0{x:Tx}{vl yA:AV}{K':am}{Kp:am}(h:PS b v aj aS U)(hf:Fr b U aa)(gk:aa.box b=some [v,vl,opsV])(g:gi (cj ⟨.e,0⟩) aa yA 51 3 (aS.length+1) (pU (aS++[x])))
 (hk:∀aV,PS b v aj (aS++[x]) aV->K' (.az []) aV):(dD (some (false,1)) (.box b 1) yA aa).wp K aa K' Kp:=by
 have hl:yA.dC/\al yA=[yA]:=by
  rcases g.g with ⟨h0,_,_⟩|⟨τ,r1,_,_⟩
  . omega
  . rw[r1];exact⟨rfl,rfl⟩
 rw[cV gk];refine⟨⟨hl.1,by rw[hl.2];rfl,d8⟩,hk _ ⟨⟨yA,by rw[aZ,hl.2];rfl,?_⟩,?_⟩⟩
 . rw[dx,List.length_singleton];refine⟨?_,g.z,g.t,xi _⟩;rcases g.g with g'|⟨τ,r1,r2,r3⟩
   . exact .inl g'
   . exact .inr ⟨τ,r1,by rw[jk (fY gk r2).symm];exact r2,r3⟩
 . refine (h.fr.trans hf).trans λc z hc hz _=>?_;rw[eM,if_neg hc];exact hz
def Tf{x:List AV}(hx:x.length=3)(hk:K' (.vec 1 .full x) U):(ai (some (51,3)) (some [co 0,AV.str [],bv 0]) 1 false [(0,.agg x)]).wp K U K' Kp:=by
 rw[fN];refine⟨d6,?_⟩;rw[eg (o:=0) (s:=3) rfl];refine⟨⟨rfl,hx,by simp[bZ]⟩,?_⟩;rw[gS];have:al (.agg x)=x:=rfl;rw[this];have e:ax (bZ 1 [co 0,AV.str [],bv 0]) 0 x=x:=by
  match x,hx with
  | [p,q,r],_=>rfl
 rw[e];exact⟨hx,hk⟩
def af5{x:List AV}{k:AV->Prop}(hx:x.length=3)(hk:k (.vec 1 .full x)):bC K (ai (some (51,3)) (some [co 0,AV.str [],bv 0]) 1 false [(0,.agg x)]) k:=by
 rw[th];refine⟨d6,?_⟩;rw[pk (o:=0) (s:=3) rfl];refine⟨⟨rfl,hx,by simp[bZ]⟩,?_⟩;rw[va];have:al (.agg x)=x:=rfl;rw[this];have e:ax (bZ 1 [co 0,AV.str [],bv 0]) 0 x=x:=by
  match x,hx with
  | [p,q,r],_=>rfl
 rw[e];exact⟨hx,hk⟩
def PS.ld(h:PS b v aj aS U):∃vl,U.box b=some [v,vl,opsV]:=by
 obtain⟨⟨vl,h1,_⟩,_⟩:=h;exact⟨vl,h1⟩
def abC{s:aT}(h:PS b v aj aS U)(hb:aS.length<=NT)(hk:∀aa,PS b v aj (aS++[fp s]) aa->R (.ret (.az [])) aa):ag K 232 [.box b 0,.str s] U R:=by
 refine Y7 ?_;dsimp only[Y6,bg,ah,cw,cG,ej,cn,aC];obtain⟨vl,gk⟩:=h.ld;simp only[bL,ad];refine gw (dN gk rfl ?_);refine jC [co 1,.str s,bv 0] rfl ?_;refine Tf rfl (IE (x:=fp s) h hb rfl gk λaa yA g mC f _=>?_);refine gw (F0 h f mC g λaV h2=>aq.mk (hk _ h2))
def Ts:∀(f n:Nat),n<10 ^ f->0<f->Lib.decDigits n=lI f n
 | 0,n,h,h0=>by omega
 | f+1,n,h,_=>by
   rw[Lib.decDigits,lI]
   by_cases h9:n<10
   . rw[dif_pos h9,if_pos h9]
   . rw[dif_neg h9,if_neg h9];have hf:0<f:=by
      cases f with
      | zero=>simp at h;omega
      | succ f=>omega
     rw[Ts f (n / 10) (by rw[Nat.pow_succ]at h;omega) hf]
def UE{n:Int}(h:ek n):Lib.itoa n=mZ n:=by
 have hn:=of_decide_eq_true h;have hp:(1000000:Nat)<10 ^ 20:=by decide
 unfold Lib.itoa mZ;rw[if_neg d6,Ts 20 _ d6 d6]
def Se{n:Int}(hn:ek n)(h:PS b v aj aS U)(hb:aS.length<=NT)(hk:∀aa,PS b v aj (aS++[kL n]) aa->R (.ret (.az [])) aa):ag K 234 [.box b 0,bv n] U R:=by
 refine Zb ?_;dsimp only[Za,jN,lD,ah,ej,cn,uE,od,jl,oe,kN];obtain⟨vl,gk⟩:=h.ld;have Ax:=of_decide_eq_true hn;simp only[bL,ao];refine j9 (eQ gk rfl (jV (JP n d6 d6) ?_));rw[UE hn];refine Q4 [co 2,.str (mZ n),bv 0] rfl ?_;refine af5 rfl (IE (x:=kL n) h hb rfl gk λaa yA g mC f pc=>⟨λc hc=>?_,?_⟩)
 . simp only[cB,iM,dy,List.not_mem_nil,or_false]at hc;subst hc;exact pc
 . refine j9 (F0 h f mC g λaV h2=>aq.mk (hk _ h2))
def Oa{c:UInt8}{s:aT}:bo (c::s)=(if 97<=c.toNat/\c.toNat<=122 then 3 else 4,c::s):=by
 unfold bo lY;simp only[dU]
def abD{ws:List aT}{cp:nj}(Fe:∀w∈ws,w≠[])(hl:ws.length<=1000)(h:PS b v aj aS U)(hb:(aS++ws.map bo).length<=NT)(hk:∀aa,PS b v aj (aS++ws.map bo) aa->R (.ret (.az [])) aa):ag K 231 [.box b 0,.vec ws.length cp (ws.map .str)] U R:=by
 refine Y5 ?_;dsimp only[Y4,eh,cU,ql,di,bg,ak,Eb,gX,aQ,ah,ar,ca,cw,cJ,cG,bX,ej,cn,aC];rw[show dK (some false) (.vec ws.length cp (ws.map .str))=.val (bv ws.length) from rfl,ad];refine⟨λm w0 w7 w8 w9 aa=>∃i:Nat,m=ws.length-i/\i<=ws.length/\w0=.box b 0/\w7=.vec ws.length cp (ws.map .str)/\w8=bv ws.length/\w9=bv (i:Nat)/\PS b v aj (aS++(ws.take i).map bo) aa,⟨_,0,rfl,d6,rfl,rfl,rfl,rfl,by simpa using h⟩,?_⟩;rintro m w0 w7 w8 w9 aK ⟨i,rfl,hi,rfl,rfl,rfl,rfl,h1⟩;rw[aY,ad];refine df (λaA=>?_) λgL=>?_
 . have aA:i<ws.length:=by omega
   obtain⟨w,hw⟩:∃w,ws[i]=w:=⟨_,rfl⟩;have hx:ws[i]?=some w:=by simp[aA,hw]
   have cD:=Fe w (fT hx);obtain⟨c,s,rfl⟩:∃c s,w=c::s:=by
    cases w with
    | nil=>exact absurd rfl cD
    | cons c s=>exact⟨c,s,rfl⟩
   have hd:(ws.map AV.str).drop i=.str (c::s)::(ws.map AV.str).drop (i+1):=by
    rw[gI (by simpa using aA)];simp[hw]
   rw[sv,ez,Nat.mul_one,hd];refine⟨d6,?_⟩;rw[ln,bI];intro j hj;have tail:∀k:Int,k=((bo (c::s)).1:Nat)->j (.box b 0) (.str (c::s)) (co k) (.vec ws.length cp (ws.map .str)) (bv ws.length) (bv (i:Nat)) aK:=by
    intro k Av;refine hj _ _ _ _ _ _ _ ?_;obtain⟨vl,gk⟩:=h1.ld;simp only[bL,ad];refine gw (dN gk rfl ?_);refine jC [co k,.str (c::s),bv 0] rfl ?_;have Cn:(aS++(ws.take i).map bo).length<=NT:=by simp at hb ⊢;omega
    refine Tf rfl (IE (x:=bo (c::s)) h1 Cn (by rw[Av];rfl) gk λaa yA g mC f _=>?_);refine gw (F0 h1 f mC g λaV h2=>?_);rw[cF];refine⟨aX d6 d6,ws.length-(i+1),d6,i+1,rfl,d6,rfl,rfl,rfl,d8,?_⟩;have e:(ws.take (i+1)).map bo=(ws.take i).map bo++[bo (c::s)]:=by rw[nP,hx];simp
    rw[e,<-lG];exact h2
   rw[sZ];refine⟨d8,?_⟩;simp only[Int.toNat_zero,List.getD_cons_zero,eX,ad,aF]
   by_cases h97:(97:Int)<=(c.toNat:Int)
   . simp only[h97,cC,eG,aw,bO,ao];rw[vN];refine⟨d8,?_⟩;simp only[Int.toNat_zero,List.getD_cons_zero,iC,ao,av,if_true,ad];refine df (λajn=>tail 3 ?_) λajn=>tail 4 ?_
     . rw[Oa,if_pos d6];rfl
     . rw[Oa,if_neg d6];rfl
   . simp only[h97,cZ,show (false==true)=false from rfl,aw,bB,av,bW,if_false,ad];refine cz (tail 4 ?_);rw[Oa,if_neg d6];rfl
 . have hi:i=ws.length:=by omega
   subst hi;rw[oO]at h1;exact aq.mk (hk _ h1)
end
def JW{k:Int}(h:cP k):ue k=(er k:Nat):=by
 have h:=of_decide_eq_true h;have key:∀n:Fin 26,ue ((n.val:Int)+9)=(er ((n.val:Int)+9):Nat):=by decide
 have:=key ⟨(k-9).toNat,d6⟩;have e:(((k-9).toNat:Int)+9)=k:=by omega
 simp only[e]at this;exact this
def s9(v:AV)(n:Nat)(t:Tre):Prop:=∀(b:Nat)(aj U:St)(aS:List Tx)(R:bi),PS b v aj aS U->(aS++t.pr).length<=NT->(∀aa,PS b v aj (aS++t.pr) aa->R (.ret (.az [])) aa)->ag K 123 [.box b 0,bv (n:Nat)] U R
variable {vk:AV}{ts:List Tre}{w:aT}
section
variable {b n:Nat}{U aj aK aa:St}{v:AV}{aS l rest:List Tx}{L:List Nd}{t:Tre}
def dV(h:K' (.vec [w].length .full ([w].map .str)) U):(ai (some (9,1)) (some [AV.str []]) 1 false [(0,(AV.str w))]).wp K U K' Kp:=yD rfl rfl rfl h
def rA{u:aT}(h:K' (.vec [w,u].length .full ([w,u].map .str)) U):(ai (some (9,1)) (some [AV.str []]) 2 false [(0,(AV.str w)),(1,(AV.str u))]).wp K U K' Kp:=D6 rfl rfl rfl rfl h
def O7{u z:aT}(h:K' (.vec [w,u,z].length .full ([w,u,z].map .str)) U):(ai (some (9,1)) (some [AV.str []]) 3 false [(0,(AV.str w)),(1,(AV.str u)),(2,(AV.str z))]).wp K U K' Kp:=by
 rw[fN];refine⟨d6,?_⟩;rw[eg (o:=0) (s:=1) rfl];refine⟨⟨rfl,rfl,by simp[bZ]⟩,?_⟩;rw[eg (o:=1) (s:=1) rfl];refine⟨⟨rfl,rfl,by simp[bZ,ax,al]⟩,?_⟩;rw[eg (o:=2) (s:=1) rfl];refine⟨⟨rfl,rfl,by simp[bZ,ax,al]⟩,?_⟩;rw[gS];exact⟨rfl,h⟩
def eS{ws:List aT}{rest:List Tx}{K':am}{Kp:am}(Fe:∀w∈ws,w≠[])(hl:ws.length<=1000)(h:PS b v aj aS U)(hb:(aS++(ws.map bo++rest)).length<=NT)
 (hk:∀aa,PS b v aj (aS++ws.map bo) aa->((aS++ws.map bo)++rest).length<=NT->K' (.az []) aa):ag K 231 [.box b 0,.vec ws.length .full (ws.map .str)] U (bD K' Kp) :=
 abD Fe hl h (by simp at hb ⊢;omega) λaa h'=>hk aa h' (by simpa using hb)
def pv{s:aT}{rest:List Tx}(h:PS b v aj aS U)(hb:(aS++(fp s::rest)).length<=NT)(hk:∀aa,PS b v aj (aS++[fp s]) aa->((aS++[fp s])++rest).length<=NT->K' (.az []) aa):ag K 232 [.box b 0,.str s] U (bD K' Kp) :=
 abC h (by simp at hb;omega) λaa h'=>hk aa h' (by simpa using hb)
def tN{m:Int}{rest:List Tx}(hm:ek m)(h:PS b v aj aS U)(hb:(aS++(kL m::rest)).length<=NT)(hk:∀aa,PS b v aj (aS++[kL m]) aa->((aS++[kL m])++rest).length<=NT->K' (.az []) aa):ag K 234 [.box b 0,bv m] U (bD K' Kp) :=
 Se hm h (by simp at hb;omega) λaa h'=>hk aa h' (by simpa using hb)
def vi{rest:List Tx}(g:s9 v n t)(h:PS b v aj aS U)(hb:(aS++(t.pr++rest)).length<=NT)(hk:∀aa,PS b v aj (aS++t.pr) aa->((aS++t.pr)++rest).length<=NT->K' (.az []) aa):ag K 123 [.box b 0,bv (n:Nat)] U (bD K' Kp) :=
 g _ _ _ _ _ h (by simp at hb ⊢;omega) λaa h'=>hk aa h' (by simpa using hb)
def afh{x:Nd}{c:AV}{o:Nat}(hv:dz v L.length (bM L))(hx:L[n]?=some x)(hc:(dv x)[o]?=some c)(h:PS b v aj aS U){Kp:am}(hk:K' c U) :
 (jf (.box b 0)).wp K U (λv8 U=>(bu (some 0) v8).wp K U (λv9 U=>(bu (some 0) v9).wp K U (λv10 U=>(bu (some 0) v10).wp K U (λv11 U=>(bj (some (false,1)) v11 U).wp K U (λv12 U =>
   (bJ (some (43,6)) none v12 (bv (n:Nat))).wp K U (λD5 U=>(bu (some o) D5).wp K U (λnT U=>(bj (some (false,1)) nT U).wp K U K' Kp) Kp) Kp) Kp) Kp) Kp) Kp) Kp:=by
 obtain⟨vl,gk⟩:=h.ld;simp only[bL,ad];exact gw (gw (gw (dN gk rfl (wK (hv.Dl (U:=U)) hx hc hk))))
def afH{least:Nat}{x:Nd}{R:bi}(hv:dz v L.length (bM L))(hx:L[n]?=some x)(p9:x.kind=t.kind)(ht:cP t.kind)(g:s9 v n t)(h:PS b v aj aS U)(hb:(aS++dY t.kind least t.pr).length<=NT)
 (hk:∀aa,PS b v aj (aS++dY t.kind least t.pr) aa->R (.ret (.az [])) aa):ag K 235 [.box b 0,bv (n:Nat),bv (least:Nat)] U R:=by
 refine Zd ?_;dsimp only[Zc,ae,bg,ak,ah,ca,cw,eN,cG,aC];refine afh hv hx (show (dv x)[0]?=some (co x.kind) from rfl) h ?_;obtain⟨vl,gk⟩:=h.ld;refine Dq (l:=[]) gk ?_;rw[bh,p9,JW ht,eX,ad];refine df (λgL=>?_) λaA=>?_
 . have e:dY t.kind least t.pr=t.pr:=by unfold dY;rw[if_pos d6]
   rw[e]at hb hk;exact g _ _ _ _ _ h hb λaa h'=>aq.mk (hk aa h')
 . have e:dY t.kind least t.pr=[dM].map bo++(t.pr++[dE].map bo):=by unfold dY;rw[if_neg d6];rfl
   rw[e]at hb hk;refine dV (eS d7 d7 h hb λaK h1 gz=>?_);refine vi g h1 gz λaV h2 iq=>?_;refine dV (eS (rest:=[]) d7 d7 h2 (by simpa using iq) λbG h3 _=>aq.mk (hk bG ?_));simpa using h3
def AX{least:Nat}{x:Nd}{rest:List Tx}{K':am}{Kp:am}(hv:dz v L.length (bM L))(hx:L[n]?=some x)(p9:x.kind=t.kind)(ht:cP t.kind)(g:s9 v n t)(h:PS b v aj aS U)(hb:(aS++(dY t.kind least t.pr++rest)).length<=NT)
 (hk:∀aa,PS b v aj (aS++dY t.kind least t.pr) aa->((aS++dY t.kind least t.pr)++rest).length<=NT->K' (.az []) aa):ag K 235 [.box b 0,bv (n:Nat),bv (least:Nat)] U (bD K' Kp) :=
 afH hv hx p9 ht g h (by simp at hb ⊢;omega) λaa h'=>hk aa h' (by simpa using hb)
def DV(w:aT)(m:List Tx):∀{ls:List (List Tx)},ls≠[]->eH w (ls++[m])=eH w ls++bo w::m
 | [],h=>absurd rfl h
 | l::ls,_=>by rw[ke,tL,tL];simp
def DW(w:aT)(ls:List (List Tx))(j:Nat):(eH w (ls.take j)).length<=(eH w ls).length:=by
 cases ls with
 | nil=>simp
 | cons l ls =>
   cases j with
   | zero=>simp[eH]
   | succ j =>
     rw[List.take_succ_cons,tL,tL,dx,dx];have:(List.flatMap (λm=>bo w::m) (ls.take j)).length<=(List.flatMap (λm=>bo w::m) ls).length:=by
      conv=>rhs;rw[<-List.take_append_drop j ls,List.flatMap_append,dx]
      omega
     omega
def lu{ks:List Nat}{i k e:Nat}{U:St}{Kp:am}(hv:dz vk ks.length (dW ks))(hx:ks[i]?=some k)(h:K' (bv (k:Nat)) U) :
 (bJ (some (e,1)) none vk (bv (i:Nat))).wp K U (λp τ=>(bj (some (false,1)) p τ).wp K τ K' Kp) Kp:=by
 have aA:=(dw.1 hx).1;obtain⟨r,hr⟩:=ints_at hv hx;rw[hr,wp_cond,ad,ln,bI];exact⟨d6,h⟩
def aeU{ks:List Nat}{R:bi}(cE:dz vk ks.length (dW ks))(hlen:ks.length=ts.length)(hl:ks.length<=100000)(hg:∀(i n:Nat)(t:Tre),ks[i]?=some n->ts[i]?=some t->s9 v n t)(h:PS b v aj aS U)
 (hb:(aS++eH ep (ts.map Tre.pr)).length<=NT) (hk:∀aa,PS b v aj (aS++eH ep (ts.map Tre.pr)) aa->R (.ret (.az [])) aa):ag K 233 [.box b 0,vk] U R:=by
 refine Y9 ?_;dsimp only[Y8,di,ae,ak,uD,gX,aQ,ah,ar,ca,cJ,aC];rw[cE.len,ad];refine⟨λm w0 w6 w7 w8 aa=>∃i:Nat,m=ks.length-i/\i<=ks.length/\w0=.box b 0/\w6=vk/\w7=bv ks.length/\w8=bv (i:Nat)/\PS b v aj (aS++eH ep ((ts.map Tre.pr).take i)) aa,⟨_,0,rfl,d6,rfl,rfl,rfl,rfl,by simpa [eH] using h⟩,?_⟩;rintro m w0 w6 w7 w8 aK ⟨i,rfl,hi,rfl,rfl,rfl,rfl,h1⟩;rw[aY,ad];refine df (λaA=>?_) λgL=>?_
 . have aA:i<ks.length:=by omega
   obtain⟨n,hn⟩:∃n,ks[i]?=some n:=⟨ks[i],by simp[aA]⟩;obtain⟨t,ht⟩:∃t,ts[i]?=some t:=⟨ts[i]'(by omega),by simp[show i<ts.length by omega]⟩;have g:=hg i n t hn ht;have qJ:(ts.map Tre.pr)[i]?=some t.pr:=by simp[ht]
   have kI:(ts.map Tre.pr).take (i+1)=(ts.map Tre.pr).take i++[t.pr]:=by rw[nP,qJ];rfl
   have hle:=DW ep (ts.map Tre.pr) (i+1);have fi:=hb;rw[dx]at fi;refine lu cE hn ?_;intro j hj;have tail:∀(tk:List Tx)(aa:St),PS b v aj tk aa->tk++t.pr=aS++eH ep ((ts.map Tre.pr).take (i+1))->j (.box b 0) (bv (n:Nat)) w6 (bv ks.length) (bv (i:Nat)) aa:=by
    intro tk aa h' e;refine hj _ _ _ _ _ _ ?_;refine g _ _ _ _ _ h' (by rw[e,dx];omega) λaV h2=>?_;rw[bh,cF];exact⟨aX d6 d6,ks.length-(i+1),d6,i+1,rfl,d6,rfl,rfl,rfl,d8,by rw[<-e];exact h2⟩
   rw[dq,ad];refine df (λAu=>?_) λhng=>?_
   . have cD:(ts.map Tre.pr).take i≠[]:=λe=>by
      have:=congrArg List.length e;rw[List.length_take,List.length_map,nQ]at this;omega
     have rZ:=DV ep t.pr cD;rw[kI]at hle tail;rw[rZ]at hle tail;refine dV (eS (ws:=[ep]) (rest:=t.pr) d7 d7 h1 (by simp at hb hle ⊢;omega) λaV h2 _=>?_);exact tail _ aV h2 d8
   . have sE:i=0:=by omega
     subst sE;exact tail _ aK h1 (by rw[kI];simp[eH])
 . have hi:i=ks.length:=by omega
   subst hi;rw[pO (by simp;omega)]at h1;exact aq.mk (hk _ h1)
def eT:List aT->List Tre->List Tx
 | w::ws,t::ts=>bo w::(dY t.kind 1 t.pr++eT ws ts)
 | _,_=>[]
def zP:∀(i:Nat)(ws:List aT)(ts:List Tre),eT ws ts=eT (ws.take i) (ts.take i)++eT (ws.drop i) (ts.drop i)
 | 0,ws,ts=>by simp[eT]
 | i+1,[],ts=>by simp[eT]
 | i+1,w::ws,[]=>by simp[eT]
 | i+1,w::ws,t::ts=>by
   rw[List.take_succ_cons,List.take_succ_cons,List.drop_succ_cons,List.drop_succ_cons,eT,eT,zP i ws ts];simp
def Vd{ks:List Nat}{ws:List aT}{R:bi}(hv:dz v L.length (bM L))(cE:dz vk ks.length (dW ks))(hlen:ks.length=ts.length)(PV:ws.length=ts.length)(hl:ks.length<=100000)(Fe:∀w∈ws,w≠[])
 (hg:∀(i n:Nat)(t:Tre),ks[i]?=some n->ts[i]?=some t->s9 v n t/\cP t.kind/\∃x,L[n]?=some x/\x.kind=t.kind) (h:PS b v aj aS U)
 (hb:(aS++eT ws ts).length<=NT) (hk:∀aa,PS b v aj (aS++eT ws ts) aa->R (.ret (.az [])) aa):ag K 237 [.box b 0,vk,.vec ws.length .full (ws.map .str)] U R:=by
 refine Zh ?_;dsimp only[Zg,di,ae,ak,oR,aQ,ah,ar,ca,cJ,aC];rw[cE.len,ad];refine⟨λm w0 w2 w8 w9 KD aa=>∃i:Nat,m=ks.length-i/\i<=ks.length/\w0=.box b 0/\w2=.vec ws.length .full (ws.map .str)/\w8=vk/\w9=bv ks.length/\KD=bv (i:Nat)/\PS b v aj (aS++eT (ws.take i) (ts.take i)) aa,⟨_,0,rfl,d6,rfl,rfl,rfl,rfl,rfl,by simpa [eT] using h⟩,?_⟩;rintro m w0 w2 w8 w9 KD aK ⟨i,rfl,hi,rfl,rfl,rfl,rfl,rfl,h1⟩;rw[aY,ad];refine df (λaA=>?_) λgL=>?_
 . have aA:i<ks.length:=by omega
   obtain⟨n,hn⟩:∃n,ks[i]?=some n:=⟨ks[i],by simp[aA]⟩;obtain⟨t,ht⟩:∃t,ts[i]?=some t:=⟨ts[i]'(by omega),by simp[show i<ts.length by omega]⟩;obtain⟨w,hw⟩:∃w,ws[i]?=some w:=⟨ws[i]'(by omega),by simp[show i<ws.length by omega]⟩;obtain⟨g,gt,x,hx,p9⟩:=hg i n t hn ht;have hwn:=Fe w (fT hw);have e1:=zP i ws ts;have ed:eT (ws.drop i) (ts.drop i)=bo w::(dY t.kind 1 t.pr++eT (ws.drop (i+1)) (ts.drop (i+1))):=by
    rw[gI (show i<ws.length by omega),gI (show i<ts.length by omega),eT];have a1:ws[i]'(by omega)=w:=(dw.1 hw).2;have a2:ts[i]'(by omega)=t:=(dw.1 ht).2;rw[a1,a2]
   have e2:=zP (i+1) ws ts;rw[e1,ed]at hb;have e3:eT (ws.take (i+1)) (ts.take (i+1))=eT (ws.take i) (ts.take i)++bo w::dY t.kind 1 t.pr:=by
    have:eT (ws.take (i+1)) (ts.take (i+1))++eT (ws.drop (i+1)) (ts.drop (i+1))=(eT (ws.take i) (ts.take i)++bo w::dY t.kind 1 t.pr)++eT (ws.drop (i+1)) (ts.drop (i+1)):=by
     rw[<-e2,e1,ed];simp
    exact List.append_cancel_right this
   refine lu cE hn ?_;have hd:(ws.map AV.str).drop i=.str w::(ws.map AV.str).drop (i+1):=by
    rw[gI (by simp;omega)];have a1:ws[i]'(by omega)=w:=(dw.1 hw).2;simp[a1]
   rw[sv,ez,Nat.mul_one,hd];refine⟨d6,?_⟩;rw[ln,bI];refine dV (eS (ws:=[w]) (rest:=dY t.kind 1 t.pr++eT (ws.drop (i+1)) (ts.drop (i+1))) (λu hu=>by rw[lT]at hu;subst hu;exact hwn) d8 h1 (by simpa using hb) λaV h2 iq=>?_);refine AX (least:=1) hv hx p9 gt g h2 iq λbG h3 _=>?_;rw[cF];refine⟨aX d6 d6,ks.length-(i+1),d6,i+1,rfl,d6,rfl,rfl,rfl,rfl,d8,?_⟩;rw[e3];simpa using h3
 . have hi:i=ks.length:=by omega
   subst hi;rw[pO d6,pO d6]at h1;exact aq.mk (hk _ h1)
end
variable {A B:Tre}
section
variable {b n:Nat}{U aj aK aa:St}{v:AV}{aS l rest:List Tx}{L:List Nd}{t:Tre}
structure hZ (v:AV) (L:List Nd) (pl:List Nat) (ks:List Tre):Prop where
 len:pl.length=ks.length
 nd:∀(i n:Nat)(t:Tre),pl[i]?=some n->ks[i]?=some t->s9 v n t/\∃x,L[n]?=some x/\x.kind=t.kind
def vY(t:Tre)(z:Int):List AV:=[co t.kind,.str t.text,bv t.n,bv t.m,bv t.at_,bv z]
def lE(f:FuncId)(v:AV)(t:Tre)(pl:List Nat):Prop:=∀(b:Nat)(aj U:St)(aS:List Tx)(R:bi)(z:Int)(vk:AV),dz vk pl.length (dW pl)->PS b v aj aS U->(aS++t.pr).length<=NT->(∀aa,PS b v aj (aS++t.pr) aa->R (.ret (.az [])) aa)->ag K f [.box b 0,.agg (vY t z),vk] U R
def hZ.one{pl:List Nat}(h:hZ v L pl [A]):∃p,pl=[p]/\s9 v p A/\∃x,L[p]?=some x/\x.kind=A.kind:=by
 match pl,h.len with
 | [p],_=>exact⟨p,rfl,h.nd 0 p A rfl rfl⟩
def hZ.two{pl:List Nat}(h:hZ v L pl [A,B]):∃p q,pl=[p,q]/\(s9 v p A/\∃x,L[p]?=some x/\x.kind=A.kind)/\s9 v q B/\∃x,L[q]?=some x/\x.kind=B.kind:=by
 match pl,h.len with
 | [p,q],_=>exact⟨p,q,rfl,h.nd 0 p A rfl rfl,h.nd 1 q B rfl rfl⟩
def hZ.three{pl:List Nat}{C:Tre}(h:hZ v L pl [A,B,C]):∃p q r,pl=[p,q,r]/\(s9 v p A/\∃x,L[p]?=some x/\x.kind=A.kind)/\(s9 v q B/\∃x,L[q]?=some x/\x.kind=B.kind)/\s9 v r C/\∃x,L[r]?=some x/\x.kind=C.kind:=by
 match pl,h.len with
 | [p,q,r],_=>exact⟨p,q,r,rfl,h.nd 0 p A rfl rfl,h.nd 1 q B rfl rfl,h.nd 2 r C rfl rfl⟩
def hZ.app{pl:List Nat}{ks ks':List Tre}(h:hZ v L pl (ks++ks')):hZ v L (pl.take ks.length) ks/\hZ v L (pl.drop ks.length) ks':=by
 have hl:=h.len;rw[dx]at hl;refine⟨⟨by rw[List.length_take];omega,λi n t h1 h2=>?_⟩,⟨by rw[List.length_drop];omega,λi n t h1 h2=>?_⟩⟩
 . have hi:=(dw.1 h2).1;rw[List.getElem?_take,if_pos hi]at h1;exact h.nd i n t h1 (by rw[yp hi];exact h2)
 . rw[List.getElem?_drop]at h1;exact h.nd _ n t h1 (by rw[List.getElem?_append_right d6,Nat.add_sub_cancel_left];exact h2)
def iJ{C:List AV}(h:PS b v aj aS U)(hk:∀b4 aK,b4≠b->aK.box b4=some C->PS b v aK aS aK->(∀l aa,PS b v aK l aa->PS b v aj l aa)->K' (.box b4 0) aK):(CR (.agg C)).wp K U K' Kp:=by
 rw[fg rfl];intro b4 kG;obtain⟨vl,gk⟩:=h.ld;have h1:=h.mono (bK kG (x:=.box (al (.agg C))));exact hk b4 _ (kG.cA gk).symm aH h1.AS λl aa h'=>h1.app h'
def jo{b4 o:Nat}{C:List AV}{c:AV}{tk:List Tx}{Kp:am}(n4:b4≠b)(m4:aK.box b4=some C)(h':PS b v aK tk aa)(hc:C[o]?=some c)(k:K' c aa) :
 (bu (some o) (.box b4 0)).wp K aa (λv8 U=>(bj (some (false,1)) v8 U).wp K U K' Kp) Kp:=by
 have aA:=(dw.1 hc).1;have hd:C.drop (0+o)=c::C.drop (o+1):=by
  rw[cK,gI aA,(dw.1 hc).2]
 exact gw (dN (h'.fr.bq n4 m4) hd k)
def bV{bt:BT}{l:Bool}{k:IntKind}{p q:Int}{A B:am}(h:p≠q)(hk:B (.bool false) U):(bU .eql bt l (.int k p) (.int k q)).wp K U (λv U=>cX v (A v U) (B v U)) Kp:=by
 rw[aN,ad,decide_eq_false h];exact cz hk
def ic{bt:BT}{l:Bool}{k:IntKind}{p q:Int}{A B:am}(h:p=q)(hk:A (.bool true) U):(bU .eql bt l (.int k p) (.int k q)).wp K U (λv U=>cX v (A v U) (B v U)) Kp:=by
 rw[aN,ad,decide_eq_true h];exact cO hk
def mv{pl:List Nat}{ts:List Tre}{ws:List aT}{rest:List Tx}{K':am}{Kp:am}(hv:dz v L.length (bM L))(cE:dz vk pl.length (dW pl))(hp:hZ v L pl ts)(htm:∀t∈ts,cP t.kind)(PV:ws.length=ts.length)(hl:ts.length<=1000)(Fe:∀w∈ws,w≠[])
 (h:PS b v aj aS U) (hb:(aS++(eT ws ts++rest)).length<=NT) (hk:∀aa,PS b v aj (aS++eT ws ts) aa->((aS++eT ws ts)++rest).length<=NT->K' (.az []) aa):ag K 237 [.box b 0,vk,.vec ws.length .full (ws.map .str)] U (bD K' Kp) :=
 Vd hv cE hp.len PV (by have:=hp.len;omega) Fe (λi n t h1 h2=>⟨(hp.nd i n t h1 h2).1,htm t (fT h2),(hp.nd i n t h1 h2).2⟩) h (by simp at hb ⊢;omega) λaa h'=>hk aa h' (by simpa using hb)
def EC{pl:List Nat}{rest:List Tx}{K':am}{Kp:am}(cE:dz vk pl.length (dW pl))(hp:hZ v L pl ts)(hl:ts.length<=1000)(h:PS b v aj aS U)
 (hb:(aS++(eH ep (ts.map Tre.pr)++rest)).length<=NT) (hk:∀aa,PS b v aj (aS++eH ep (ts.map Tre.pr)) aa->((aS++eH ep (ts.map Tre.pr))++rest).length<=NT->K' (.az []) aa):ag K 233 [.box b 0,vk] U (bD K' Kp) :=
 aeU cE hp.len (by have:=hp.len;omega) (λi n t h1 h2=>(hp.nd i n t h1 h2).1) h (by simp at hb ⊢;omega) λaa h'=>hk aa h' (by simpa using hb)
def mc{pl:List Nat}(hv:dz vk pl.length (dW pl))(h0:pl≠[]){i j:Nat}(eF:i<=j)(hj:j<=pl.length){hi:Option AV}(hhi:fB pl.length hi=some (j:Int)){lo:Option AV}(hlo:fB 0 lo=some (i:Int)){K':am}{Kp:am}
 (hk:∀c,K' (.vec ((pl.take j).drop i).length c (dW ((pl.take j).drop i))) U):(eI false (some (3,1)) vk lo hi).wp K U K' Kp:=by
 rcases hv with ⟨h1,_,_⟩|⟨c,rfl⟩
 . exact absurd (ti.1 h1) h0
 . rw[zl,hhi,hlo];simp only[ez,Nat.mul_one];have:j-i=((pl.take j).drop i).length:=by simp;omega
   rw[this,wp_cond,ad];have e:((dW pl).take j).drop i=dW ((pl.take j).drop i):=by simp[dW,List.map_take,List.map_drop]
   rw[e];exact⟨d6,hk _⟩
section
variable {x:aT}{nn m a:Int}{pl:List Nat}
def aey{C:Tre}(hv:dz v L.length (bM L))(hp:hZ v L pl [A,B,C])(hA:cP A.kind)(hB:cP B.kind)(hC:cP C.kind):lE 184 v (.mk 10 x nn m a [A,B,C]) pl:=by
 intro b aj U aS R z vk cE h hb hk;have e:(Tre.mk 10 x nn m a [A,B,C]).pr=eT [uy,qi,gh] [A,B,C]++[]:=by rw[Tre.ee];simp[c8,eT]
 rw[e]at hb;refine ru ?_;dsimp only[wx,di,ae,bg,ak,gX,aQ,ah,ar,ca,dI,cJ,aC];refine iJ h λb4 aK n4 m4 h1 up=>jo n4 m4 h1 (show _=some (co 10) from rfl) ?_;refine bV d7 (ic rfl ?_);refine O7 (mv hv cE hp (by simp[hA,hB,hC]) rfl d8 d7 h1 hb λaV h2 _=>aq.mk (hk _ (up _ _ ?_)));rw[e,iM];exact h2
def LL{k:Int}{u:aT}(Jw:(k,w,u)∈[((11:Int),lU,vr),(15,jz,gh)])(hv:dz v L.length (bM L))(hp:hZ v L pl [A,B])(hA:cP A.kind)(hB:cP B.kind):lE 184 v (.mk k x nn m a [A,B]) pl:=by
 intro b aj U aS R z vk cE h hb hk;have Fe:∀y∈[w,u],y≠[]:=by
  simp only[dy,List.not_mem_nil,or_false,jK]at Jw;rcases Jw with ⟨_,rfl,rfl⟩|⟨_,rfl,rfl⟩<;>decide
 have e:(Tre.mk k x nn m a [A,B]).pr=eT [w,u] [A,B]++[]:=by
  rw[Tre.ee];simp only[dy,List.not_mem_nil,or_false,jK]at Jw;rcases Jw with ⟨rfl,rfl,rfl⟩|⟨rfl,rfl,rfl⟩<;>simp[c8,eT]
 rw[e]at hb;refine ru ?_;dsimp only[wx,di,ae,bg,ak,gX,aQ,ah,ar,ca,dI,cJ,aC];refine iJ h λb4 aK n4 m4 h1 up=>jo n4 m4 h1 (show _=some (co k) from rfl) ?_;have fin:=λ(aV:St)(h2:PS b v aK (aS++eT [w,u] [A,B]) aV)=>hk aV (up _ _ (by rw[e,iM];exact h2));simp only[dy,List.not_mem_nil,or_false,jK]at Jw;rcases Jw with ⟨rfl,rfl,rfl⟩|⟨rfl,rfl,rfl⟩
 . refine bV d7 (bV d7 (ic rfl ?_));exact rA (mv hv cE hp (by simp[hA,hB]) rfl d8 Fe h1 hb λaV h2 _=>aq.mk (fin _ h2))
 . refine bV d7 (bV d7 (bV d7 (ic rfl ?_)));exact rA (mv hv cE hp (by simp[hA,hB]) rfl d8 Fe h1 hb λaV h2 _=>aq.mk (fin _ h2))
def aaC(hn:ek nn)(hm:ek m)(hv:dz v L.length (bM L))(hp:hZ v L pl [A])(hA:cP A.kind):lE 184 v (.mk 12 x nn m a [A]) pl:=by
 intro b aj U aS R z vk cE h hb hk;have e:(Tre.mk 12 x nn m a [A]).pr=[qQ].map bo++(fp x::([ef].map bo++(kL nn::([bY].map bo++(kL m::(eT [jQ] [A]++[])))))):=by rw[Tre.ee];simp[c8,eT]
 rw[e]at hb;refine ru ?_;dsimp only[wx,di,ae,bg,ak,gX,aQ,ah,ar,ca,dI,cJ,aC];refine iJ h λb4 aK n4 m4 h1 up=>jo n4 m4 h1 (show _=some (co 12) from rfl) ?_;refine bV d7 (bV d7 (bV d7 (bV d7 (ic rfl ?_))));refine dV (eS d7 d7 h1 hb λaV h2 b2=>jo n4 m4 h2 rfl ?_);refine pv h2 b2 λbG h3 b3=>?_;refine dV (eS d7 d7 h3 b3 λcI h4 tq=>jo n4 m4 h4 rfl ?_);refine tN hn h4 tq λdc h5 b5=>?_;refine dV (eS d7 d7 h5 b5 λjg h6 b6=>jo n4 m4 h6 rfl ?_);refine tN hm h6 b6 λgZ h7 b7=>?_;refine dV (mv hv cE hp (by simp[hA]) rfl d8 d7 h7 b7 λpE h8 _=>aq.mk (hk _ (up _ _ ?_)));rw[e];simpa [Tre.text,Tre.n,Tre.m] using h8
def Rh(hv:dz v L.length (bM L))(hp:hZ v L pl [A,B])(hA:cP A.kind)(hB:cP B.kind):lE 184 v (.mk 13 x nn m a [A,B]) pl:=by
 intro b aj U aS R z vk cE h hb hk;have e:(Tre.mk 13 x nn m a [A,B]).pr=[mJ].map bo++(fp x::(eT [jQ,gh] [A,B]++[])):=by rw[Tre.ee];simp[c8,eT]
 rw[e]at hb;refine ru ?_;dsimp only[wx,di,ae,bg,ak,gX,aQ,ah,ar,ca,dI,cJ,aC];refine iJ h λb4 aK n4 m4 h1 up=>jo n4 m4 h1 (show _=some (co 13) from rfl) ?_;refine bV d7 (bV d7 (bV d7 (bV d7 (bV d7 (ic rfl ?_)))));refine dV (eS d7 d7 h1 hb λaV h2 b2=>jo n4 m4 h2 rfl ?_);refine pv h2 b2 λbG h3 b3=>?_;refine rA (mv hv cE hp (by simp[hA,hB]) rfl d8 d7 h3 b3 λpE h8 _=>aq.mk (hk _ (up _ _ ?_)));rw[e];simpa [Tre.text,Tre.n,Tre.m] using h8
def aaD(hv:dz v L.length (bM L))(hp:hZ v L pl [A])(hA:cP A.kind):lE 184 v (.mk 16 x nn m a [A]) pl:=by
 intro b aj U aS R z vk cE h hb hk;have e:(Tre.mk 16 x nn m a [A]).pr=fp x::(eT [bY] [A]++[]):=by rw[Tre.ee];simp[c8,eT]
 rw[e]at hb;refine ru ?_;dsimp only[wx,di,ae,bg,ak,gX,aQ,ah,ar,ca,dI,cJ,aC];refine iJ h λb4 aK n4 m4 h1 up=>jo n4 m4 h1 (show _=some (co 16) from rfl) ?_;refine bV d7 (bV d7 (bV d7 (bV d7 (bV d7 (bV d7 (ic rfl ?_))))));refine jo n4 m4 h1 rfl ?_;refine pv h1 hb λbG h3 b3=>?_;refine dV (mv hv cE hp (by simp[hA]) rfl d8 d7 h3 b3 λpE h8 _=>aq.mk (hk _ (up _ _ ?_)));rw[e];simpa [Tre.text,Tre.n,Tre.m] using h8
def Ov(hn:ek nn)(hv:dz v L.length (bM L))(hp:hZ v L pl [A])(hA:cP A.kind):lE 184 v (.mk 14 x nn m a [A]) pl:=by
 intro b aj U aS R z vk cE h hb hk;have e:(Tre.mk 14 x nn m a [A]).pr=[jR].map bo++(fp x::([bY].map bo++(kL nn::(eT [jQ] [A]++[])))):=by rw[Tre.ee];simp[c8,eT]
 rw[e]at hb;refine ru ?_;dsimp only[wx,di,ae,bg,ak,gX,aQ,ah,ar,ca,dI,cJ,aC];refine iJ h λb4 aK n4 m4 h1 up=>jo n4 m4 h1 (show _=some (co 14) from rfl) ?_;refine bV d7 (bV d7 (bV d7 (bV d7 (bV d7 (bV d7 (bV d7 (ic rfl ?_)))))));refine dV (eS d7 d7 h1 hb λaV h2 b2=>jo n4 m4 h2 rfl ?_);refine pv h2 b2 λbG h3 b3=>?_;refine dV (eS d7 d7 h3 b3 λcI h4 tq=>jo n4 m4 h4 rfl ?_);refine tN hn h4 tq λdc h5 b5=>?_;refine dV (mv hv cE hp (by simp[hA]) rfl d8 d7 h5 b5 λpE h8 _=>aq.mk (hk _ (up _ _ ?_)));rw[e];simpa [Tre.text,Tre.n,Tre.m] using h8
def afx:∀(A:Tre)(ts:List Tre),eH dF ((A::ts).map λt=>dY t.kind 1 t.pr)=dY A.kind 1 A.pr++ts.flatMap λt=>bo dF::dY t.kind 1 t.pr:=by
 intro A ts;rw[fh,tL,List.flatMap_map]
def aaE{A:Tre}{ts:List Tre}(GN:ts.length<=900)(hv:dz v L.length (bM L))(hp:hZ v L pl (A::ts))(hA:∀t∈A::ts,cP t.kind):lE 184 v (.mk 9 x nn m a (A::ts)) pl:=by
 intro b aj U aS R z vk cE h hb hk;have e:(Tre.mk 9 x nn m a (A::ts)).pr=dY A.kind 1 A.pr++ts.flatMap λt=>bo dF::dY t.kind 1 t.pr:=by
  rw[Tre.ee,<-afx];simp only[c8,List.map_map];rfl
 rw[e]at hb;have hlen:=hp.len;obtain⟨p0,pr,rfl⟩:∃p r,pl=p::r:=by
  cases pl with
  | nil=>simp at hlen
  | cons p r=>exact⟨p,r,rfl⟩
 obtain⟨g0,x0,hx0,aj2⟩:=hp.nd 0 p0 A rfl rfl;have hp':hZ v L pr ts:=(hZ.app (ks:=[A]) hp).2;refine ru ?_;dsimp only[wx,di,ae,bg,ak,gX,aQ,ah,ar,ca,dI,cJ,aC];refine iJ h λb4 aK n4 m4 h1 up=>jo n4 m4 h1 (show _=some (co 9) from rfl) ?_;refine ic rfl ?_;refine lu (i:=0) cE rfl ?_;refine AX (least:=1) hv hx0 aj2 (hA A d8) g0 h1 hb λaV h2 b2=>?_;refine mc (i:=1) (j:=(p0::pr).length) cE d8 d8 (da _) rfl rfl λc=>?_;rw[oO,show (p0::pr).drop 1=pr from rfl];rw[show dK (some false) (AV.vec pr.length c (dW pr))=.val (bv pr.length) from rfl,ad];have Dd:dz (AV.vec pr.length c (dW pr)) pr.length (dW pr):=.inr ⟨_,rfl⟩;have akU:=hp'.len;refine⟨λmm w0 w18 w19 w20 aa=>∃i:Nat,mm=pr.length-i/\i<=pr.length/\w0=.box b 0/\w18=AV.vec pr.length c (dW pr)/\w19=bv pr.length/\w20=bv (i:Nat)/\PS b v aK (aS++dY A.kind 1 A.pr++(ts.take i).flatMap λt=>bo dF::dY t.kind 1 t.pr) aa,⟨_,0,rfl,d6,rfl,rfl,rfl,rfl,by simpa using h2⟩,?_⟩;rintro mm w0 w18 w19 w20 bG ⟨i,rfl,hi,rfl,rfl,rfl,rfl,h3⟩;rw[aY,ad];refine df (λaA=>?_) λgL=>?_
 . have aA:i<pr.length:=by omega
   obtain⟨q,hq⟩:∃q,pr[i]?=some q:=⟨pr[i],by simp[aA]⟩;obtain⟨t,ht⟩:∃t,ts[i]?=some t:=⟨ts[i]'(by omega),by simp[show i<ts.length by omega]⟩;obtain⟨g,xq,hxq,aj3⟩:=hp'.nd i q t hq ht;have htm:=hA t (by simp[fT ht]);refine lu Dd hq ?_;refine EI rfl rfl ?_;have e2:(ts.take (i+1)).flatMap (λt=>bo dF::dY t.kind 1 t.pr)=(ts.take i).flatMap (λt=>bo dF::dY t.kind 1 t.pr)++(eT [dF] [t]):=by
    rw[nP,ht];simp[eT]
   have hle:((ts.take (i+1)).flatMap (λt=>bo dF::dY t.kind 1 t.pr)).length<=(ts.flatMap λt=>bo dF::dY t.kind 1 t.pr).length:=by
    conv=>rhs;rw[<-List.take_append_drop (i+1) ts,List.flatMap_append,dx]
    omega
   refine dV (mv (ts:=[t]) (rest:=[]) (pl:=[q]) hv (.inr ⟨_,rfl⟩) ⟨rfl,λj n' t' j1 j2=>?_⟩ (by simp[htm]) rfl d8 d7 h3 ?_ λcI h4 _=>?_)
   . match j,j1,j2 with
     | 0,j1,j2 =>
       simp at j1 j2;subst j1 j2;exact⟨g,xq,hxq,aj3⟩
   . rw[e2,dx]at hle;rw[iM];simp only[dx]at hb b2 ⊢;omega
   . rw[cF];refine⟨aX d6 d6,pr.length-(i+1),d6,i+1,rfl,d6,rfl,rfl,rfl,d8,?_⟩;rw[e2,<-lG];exact h4
 . have hi:i=pr.length:=by omega
   subst hi;rw[pO d6]at h3;refine aq.mk (hk _ (up _ _ ?_));rw[e,<-lG];exact h3
end
end
end Go.Rip
