import Derived.Test.YtnfpmiiopiinbaaGreatDoorS
set_option linter.all false
namespace Go.Rip
open Go.Proofs Go.RowKit
def Hr(k:Int):Pure K 179 [co k] (.bool (jI k)):=by
 intro U R hR;refine X5 ?_;dsimp only[X4,eh,cU,ah,ar,bX];rw[eX,ad];refine GK (λ_=>iC ..) (aq.eq hR ?_);simp only[jI,AV.bool.injEq];grind
def Hq(k:Int):Pure K 206 [co k] (.bool (jH k)):=by
 intro U R hR;refine Yt ?_;dsimp only[Ys,jr,fe,ah,ar,bX];rw[aN,ad];refine zD (λ_=>aN ..) (aq.eq hR ?_);simp only[jH,AV.bool.injEq];grind
def Ht(k:Int):Pure K 181 [co k] (.bool (fJ k)):=by
 intro U R hR;refine X9 ?_;dsimp only[X8,jr,fe,ae,ah,bX];refine (Hq k).go ?_;refine zD (λ_=>aN ..) (aq.eq hR ?_);simp only[jH,fJ,AV.bool.injEq];grind
def BX(k:Int):Pure K 185 [co k] (.bool (cP k)):=by
 intro U R hR;refine Yb ?_;dsimp only[Ya,eh,cU,ah,ar,bX];rw[eX,ad];refine GK (λ_=>iC ..) (aq.eq hR ?_);simp only[cP,AV.bool.injEq];grind
def Vb(k:Int):Pure K 207 [co k] (.bool (lh k)):=by
 intro U R hR;refine Yv ?_;dsimp only[Yu,jr,fe,ae,ah,bX];refine (BX k).go ?_;refine zD (λ_=>aN ..) ?_;refine zD (λ_=>aN ..) (aq.eq hR ?_);simp only[cP,lh,AV.bool.injEq];grind
def Sc(k c:Int):Pure K 242 [co k,.dJ [co c]] (.bool (decide (k=c))):=by
 intro U R hR;refine Zn ?_;dsimp only[Zm,ah,ca,iH];rw[ln,bI];exact ib (aq.mk hR)
def sO(a b n:Int):Pure K 122 [bv a,bv b,bv n] (.bool (decide (a<=n/\n<=b))):=by
 intro U R hR;refine Wr ?_;dsimp only[Wq,qk,cU,ah,ca,bX];refine Ba ?_
 by_cases h:a<=n
 . simp only[h,cC,aF,eG];refine fD (fD ?_);rw[iC];refine fD ?_;simp only[av,if_true,ad];refine aq.eq hR ?_;simp[h]
 . simp only[h,cZ,aF,show (false==true)=false from rfl,aw,bB,av,bW,if_false,ad];refine aq.eq hR ?_;simp[h]
def CV:ku->AV
 | .item=>.func (.func 179) [] []
 | .type=>.func (.func 181) [] []
 | .base=>.func (.func 206) [] []
 | .term=>.func (.func 185) [] []
 | .arg=>.func (.func 207) [] []
 | .kind c=>.func (.func 242) [] [.dJ [co c]]
variable {U:St}{K' Kp:am}
def af8{c:ku}{k:Int}(h:K' (.bool (c.is k)) U):(kQ K.P (CV c) [co k]).wp K U K' Kp:=by
 cases c with
 | item=>simp only[CV,kQ,show gP K.P 179 by kernel_rfl,if_true,nU,mQ,iM];exact (Hr k).go h
 | type=>simp only[CV,kQ,show gP K.P 181 by kernel_rfl,if_true,nU,mQ,iM];exact (Ht k).go h
 | base=>simp only[CV,kQ,show gP K.P 206 by kernel_rfl,if_true,nU,mQ,iM];exact (Hq k).go h
 | term=>simp only[CV,kQ,show gP K.P 185 by kernel_rfl,if_true,nU,mQ,iM];exact (BX k).go h
 | arg=>simp only[CV,kQ,show gP K.P 207 by kernel_rfl,if_true,nU,mQ,iM];exact (Vb k).go h
 | kind c=>simp only[CV,kQ,show gP K.P 242 by kernel_rfl,if_true,nU,mQ,ke];exact (Sc k c).go h
def pw(s:nq):List AV:=[CV s.c,bv (s.least:Nat),bv (s.ph:Nat)]
def qN(l:List nq):List AV:=l.flatMap pw
def oF(l:List nq):AV:=if l=[] then .af else .vec l.length .full (qN l)
def qA(f:iQ):List AV:=[.bool f.text,.bool f.n,.bool f.m,oF f.kids]
def NM(L:List nq):(qN L).length=3*L.length:=by
 induction L with
 | nil=>rfl
 | cons t L ih =>
   have:(qN (t::L)).length=3+(qN L).length:=by simp[qN,pw];omega
   rw[this,ih,jm];omega
def HD(L:List nq)(i:Nat):(qN L).drop (i*3)=qN (L.drop i):=by
 induction L generalizing i with
 | nil=>simp[qN]
 | cons t L ih =>
   cases i with
   | zero=>simp
   | succ i =>
     rw[Nat.add_mul,show i*3+1*3=3+i*3 by omega,<-List.drop_drop,List.drop_succ_cons,<-ih];rfl
variable {i:Nat}
def acE{L:List nq}{t:nq}(h:L[i]?=some t):∃r,(qN L).drop (i*3)=pw t++r:=by
 rw[HD,gI (dw.1 h).1];refine⟨qN (L.drop (i+1)),?_⟩;have:=(dw.1 h).2;simp[qN,this]
def acF(l:List nq):dz (oF l) l.length (qN l):=by
 unfold oF;split
 . rename_i h;subst h;exact .inl ⟨rfl,rfl,rfl⟩
 . exact .inr ⟨_,rfl⟩
variable {v:AV}
def aea{ss:List nq}{s:nq}{Kp:am}(hv:dz v ss.length (qN ss))(hs:ss[i]?=some s)(hk:K' (.agg (pw s)) U) :
 (bJ (some (200,3)) none v (bv (i:Nat))).wp K U (λp U=>(bj (some (true,3)) p U).wp K U K' Kp) Kp:=by
 have aA:=(dw.1 hs).1;obtain⟨c,rfl,nx⟩:=hv.at (sz:=3) (e:=200) aA;obtain⟨r,hr⟩:=acE hs;rw[nx,hr];refine⟨d6,?_⟩;rw[ad,tP];refine⟨by simp[pw],?_⟩;have:(pw s++r).take 3=pw s:=by simp[pw]
 rw[this];exact hk
def JZ{k:Int}{z:AV}:∀(ks:List Int)(vs:List AV),(∀j∈ks,j≠k)->pM .i (co k) z true (ks.map (.int .u8)) vs=.val (.az [z,.bool false])
 | [],vs,_=>by cases vs<;>rfl
 | j::ks,[],_=>rfl
 | j::ks,v::vs,h=>by
   have hj:¬ k=j:=λe=>h j d8 e.symm;have:jZ .i (co k) (co j)=some false:=by simp[jZ,hj]
   simp only[fh,pM,this,bW,if_false];exact JZ ks vs λx hx=>h x (by simp[hx])
def Oc:AV:=.agg [AV.bool false,AV.bool false,AV.bool false,AV.af]
def U4(n:Nat):Bool:=match sD with
 | .iK ks vs=>(match pM .i (co n) Oc true ks vs with
   | .val v=>lP v (match bS n with|some f=>.az [.agg (qA f),.bool true]|none=>.az [Oc,.bool false])
   | _=>false)
 | _=>false
def Sa:∀n:Fin 38,U4 n.val:=by decide +kernel
def OG(ks:List Int):(iW ks).length=ks.length:=by simp[iW]
def ah5{U:St}{ks:List Int}{e:Nat}{k:Int}{kq:AV->AV->Prop}(hv:dz v ks.length (iW ks))(hk:ks[i]?=some k)(h:∀L,kq (.dJ L) (co k)) :
 aI K (.bool true) (bJ (some (e,1)) none v (bv (i:Nat))) λp=>aI K (.bool true) (bj (some (false,1)) p U) (kq p):=by
 have aA:=(dw.1 hk).1;obtain⟨c,rfl,nx⟩:=hv.at (sz:=1) (e:=e) aA;obtain⟨r,hr⟩:=Ip hk;rw[nx,Nat.mul_one,hr];exact lS ⟨d6,lS (h _)⟩
def agS{ks:List Int}{e:Nat}{Kp:am}(hv:dz v ks.length (iW ks))(hi:i<=ks.length)(hk:∀v',dz v' (ks.drop i).length (iW (ks.drop i))->K' v' U) :
 (eI false (some (e,1)) v (some (bv (i:Nat))) none).wp K U K' Kp:=by
 rcases hv with ⟨h0,h1,rfl⟩|⟨c,rfl⟩
 . have ju:ks=[]:=ti.1 h0;subst ju;have sE:i=0:=by simpa using hi
   subst sE;simp only[eI,fB,wp_cond,ad];refine⟨d8,hk _ (.inl ⟨rfl,rfl,rfl⟩)⟩
 . rw[zl,gp,kj];refine⟨d6,?_⟩;refine hk _ (.inr ⟨xg c none,?_⟩);have:ks.length-i=(ks.drop i).length:=by rw[List.length_drop]
   simp only[ez,Nat.mul_one,this];rw[pO (by rw[OG];exact da _)];congr 1;simp[iW,List.map_drop]
def afB{ss:List nq}{Kp:am}(hi:i<ss.length)(hk:∀v',dz v' (ss.drop (i+1)).length (qN (ss.drop (i+1)))->K' v' U) :
 (eI false (some (200,3)) (oF ss) (some (bv ((i:Nat)+1))) none).wp K U K' Kp:=by
 have cD:ss≠[]:=by intro e;subst e;simp at hi
 unfold oF;rw[if_neg cD,zl,gp,kj];refine⟨d6,?_⟩;refine hk _ (.inr ⟨xg .full none,?_⟩);have:(ss.length:Int).toNat-((i:Int)+1).toNat=(ss.drop (i+1)).length:=by rw[List.length_drop];omega
 rw[this];congr 1;rw[ez,pO (by rw[NM];omega),show ((i:Int)+1).toNat=i+1 by omega,HD]
def y9(ks:List Int)(s:nq)(rest:Nat):Nat:=((ks.take (min (ks.length-rest) s.ph)).takeWhile s.c.is).length
def TH(ks:List Int)(s:nq)(ss:List nq):dB ks (s::ss)=if y9 ks s (ss.map (·.least)).sum<s.least then false else dB (ks.drop (y9 ks s (ss.map (·.least)).sum)) ss:=by
 rw[dB];rfl
def IU{p:Int->Bool}:∀{l:List Int}{i:Nat},(∀j(h:j<l.length),j<i->p l[j])->i<=l.length->(i=l.length\/∃h:i<l.length,p l[i]=false)->(l.takeWhile p).length=i
 | [],i,_,hi,_=>by simp at hi;simp[hi]
 | a::l,0,_,_,he=>by
   rcases he with he|⟨h,he⟩
   . simp at he
   . rw[om];simp at he;simp[he]
 | a::l,i+1,cg,hi,he=>by
   have ha:p a:=cg 0 d8 d6;rw[om,if_pos ha,jm];congr 1;refine IU (λj h hj=>?_) (by simpa using hi) ?_
   . have:=cg (j+1) (by simp;omega) d6;simpa using this
   . rcases he with he|⟨h,he⟩
     . left;simpa using he
     . right;exact⟨by simpa using h,by simpa using he⟩
def agf{U:St}{R:bi}{ks:List Int}{ss:List nq}(hv:dz v ks.length (iW ks))(hl:ks.length<=100000)(p8:ss.length<=100)(lg:∀s∈ss,s.least<=1000/\s.ph<=1000)
 (h:∀aa,dt U aa->R (.ret (.bool (dB ks ss))) aa):ag K 209 [v,oF ss] U R:=by
 refine Yz ?_;dsimp only[Yy,qk,yG,se,Be,cU,jN,lD,bg,ak,ahD,aee,oR,ahG,aQ,ah,dj,ar,ca,eN,cJ,aC,dr,dA,mX,zw,qm];have hss:=acF ss;have hlen:dK (some false) (oF ss)=.val (bv ss.length):=hss.len;rw[hlen,ad];refine⟨λm v0 v1 v11 v12 sb aa=>∃(i:Nat)(ks':List Int),m=ss.length-i/\v1=oF ss/\v11=oF ss/\v12=bv ss.length/\sb=bv (i:Nat)/\i<=ss.length/\dz v0 ks'.length (iW ks')/\ks'.length<=ks.length/\dB ks' (ss.drop i)=dB ks ss/\dt U aa,
  ⟨_,0,ks,rfl,rfl,rfl,rfl,rfl,d6,hv,da _,rfl,dt.refl _⟩,?_⟩
 rintro m v0 v1 v11 v12 sb aK ⟨i,ks',rfl,rfl,rfl,rfl,rfl,hi,hv0,kH,sh,e1⟩;refine yE (λaA=>?_) λgL=>?_
 . have aA:i<ss.length:=by omega
   obtain⟨s,hs⟩:∃s,ss[i]?=some s:=⟨ss[i],by simp[aA]⟩;have PQ:=lg s (fT hs);have Bp:ss.drop i=s::ss.drop (i+1):=by
    rw[gI aA];have:=(dw.1 hs).2;rw[this]
   refine aea hss hs ?_;rw[dh];intro b6 tC;have m6:(aK.new b6 (.box [AV.eY,bv 0,bv 0])).box b6=some [AV.eY,bv 0,bv 0]:=aH;have e2:=e1.new tC (x:=.box [AV.eY,bv 0,bv 0]);have f6:=e1.fresh tC.1;generalize aK.new b6 (.box [AV.eY,bv 0,bv 0])=aV at *;rw[cV m6];refine⟨⟨rfl,rfl,d8⟩,?_⟩;have g6:(aV.set b6 (.box (ax [AV.eY,bv 0,bv 0] 0 (al (.agg (pw s)))))).box b6=some (pw s):=by rw[aZ];rfl
   have e3:=e2.set f6 (x:=.box (ax [AV.eY,bv 0,bv 0] 0 (al (.agg (pw s)))));generalize aV.set b6 (.box (ax [AV.eY,bv 0,bv 0] 0 (al (.agg (pw s)))))=bG at *;rw[cF];refine⟨aX d6 d6,?_⟩;refine afB aA λv21 h21=>?_;have agI:dK (some false) v21=.val (bv (ss.drop (i+1)).length):=h21.len;rw[agI,ad];generalize Eo:ss.drop (i+1)=rest at *;have hrl:rest.length<=100:=by rw[<-Eo,List.length_drop];omega
   have hrm:∀s∈rest,s.least<=1000:=λs hs=>(lg s (by rw[<-Eo]at hs;exact List.mem_of_mem_drop hs)).1;have aa6:∀n,((rest.take n).map (·.least)).sum<=1000*n:=by
    have:∀(l:List nq)(n:Nat),(∀s∈l,s.least<=1000)->((l.take n).map (·.least)).sum<=1000*n:=by
     intro l
     induction l with
     | nil=>intro n _;simp
     | cons a l ih =>
       intro n hm;cases n with
       | zero=>simp
       | succ n =>
         have:=ih n λs hs=>hm s (by simp[hs]);have:=hm a d8;simp only[List.take_succ_cons,fh,List.sum_cons];omega
    exact λn=>this rest n hrm
   refine⟨λm w0 w1 w6 w7 Z5 Z6 KE w21 w22 w23 aa=>∃j:Nat,m=rest.length-j/\w0=v0/\w1=oF ss/\w6=.box b6 0/\w7=bv (((rest.take j).map (·.least)).sum:Nat)/\Z5=oF ss/\Z6=bv ss.length/\KE=bv (i:Nat)/\w21=v21/\w22=bv rest.length/\w23=bv (j:Nat)/\j<=rest.length/\aa.box b6=some (pw s)/\dt U aa,
    ⟨_,0,rfl,rfl,rfl,rfl,rfl,rfl,rfl,rfl,rfl,rfl,rfl,d6,g6,e3⟩,?_⟩
   clear e2 e3 g6 m6 tC;rintro m w0 w1 w6 w7 Z5 Z6 KE w21 w22 w23 cI ⟨j,rfl,rfl,rfl,rfl,rfl,rfl,rfl,rfl,rfl,rfl,rfl,hj,g6,e4⟩;refine yE (λnH=>?_) λajE=>?_
   . have nH:j<rest.length:=by omega
     obtain⟨s2,ua⟩:∃s2,rest[j]?=some s2:=⟨rest[j],by simp[nH]⟩;refine aea h21 ua ?_;rw[dh];intro b9 GP;have m9:(cI.new b9 (.box [AV.eY,bv 0,bv 0])).box b9=some [AV.eY,bv 0,bv 0]:=aH;have e5:=e4.new GP (x:=.box [AV.eY,bv 0,bv 0]);have f9:=e4.fresh GP.1;have n9:=GP.cA g6;have g6':=(bK GP (x:=.box [AV.eY,bv 0,bv 0])).bq g6;generalize cI.new b9 (.box [AV.eY,bv 0,bv 0])=dc at *;rw[cV m9];refine⟨⟨rfl,rfl,d8⟩,?_⟩;have g9:(dc.set b9 (.box (ax [AV.eY,bv 0,bv 0] 0 (al (.agg (pw s2)))))).box b9=some (pw s2):=by rw[aZ];rfl
     have ajl:(dc.set b9 (.box (ax [AV.eY,bv 0,bv 0] 0 (al (.agg (pw s2)))))).box b6=some (pw s):=by rw[bf n9];exact g6'
     have e6:=e5.set f9 (x:=.box (ax [AV.eY,bv 0,bv 0] 0 (al (.agg (pw s2)))));generalize dc.set b9 (.box (ax [AV.eY,bv 0,bv 0] 0 (al (.agg (pw s2)))))=jg at *;simp only[aP,ad,cK];refine dN g9 rfl ?_;have gz:=aa6 j;have iq:=hrm s2 (fT ua);rw[cF];refine⟨aX d6 d6,?_⟩;rw[cF];refine⟨aX d6 d6,rest.length-(j+1),d6,j+1,rfl,rfl,rfl,rfl,?_,rfl,rfl,rfl,rfl,rfl,d8,nH,ajl,e6⟩;have:rest.take (j+1)=rest.take j++[s2]:=by rw[nP,ua];rfl
     rw[this];simp
   . have hj:j=rest.length:=by omega
     subst hj;rw[oO];have gz:=aa6 rest.length;rw[oO]at gz;generalize ajW:(rest.map (·.least)).sum=sm at *;have aie:dB ks' (s::rest)=if y9 ks' s sm<s.least then false else dB (ks'.drop (y9 ks' s sm)) rest:=by rw[TH,ajW]
     rw[Bp,aie]at sh;refine⟨λm u0 w1 w6 w7 KD Z5 Z6 KE aa=>∃q:Nat,m=ks'.length-q/\u0=w0/\w1=oF ss/\w6=.box b6 0/\w7=bv (sm:Nat)/\KD=bv (q:Nat)/\Z5=oF ss/\Z6=bv ss.length/\KE=bv (i:Nat)/\q<=min (ks'.length-sm) s.ph/\(∀(p:Nat)(hp:p<ks'.length),p<q->s.c.is ks'[p])/\aa.box b6=some (pw s)/\dt U aa,
      ⟨_,0,rfl,rfl,rfl,rfl,rfl,rfl,rfl,rfl,rfl,d6,λp hp h=>by omega,g6,e4⟩,?_⟩
     clear g6 e4;rintro m u0 w1 w6 w7 KD Z5 Z6 KE dc ⟨q,rfl,rfl,rfl,rfl,rfl,rfl,rfl,rfl,rfl,hq,cg,g6,e5⟩;intro jj uH;have RB:dK (some false) u0=.val (bv ks'.length):=hv0.len;have stop:y9 ks' s sm=q->jj u0 (oF ss) (.box b6 0) (bv (sm:Nat)) (bv (q:Nat)) (oF ss) (bv ss.length) (bv (i:Nat)) (.bool false) dc:=λhmq=>by
      refine uH _ _ _ _ _ _ _ _ _ _ ?_;refine cz ?_;simp only[aP,ad,cK];refine dN g6 rfl ?_;rw[hmq]at sh;refine yE (λPJ=>?_) λPJ=>?_
      . rw[if_pos d6]at sh;refine aq.mk ?_;rw[sh];exact h _ e5
      . rw[if_neg d6]at sh;refine agS hv0 d6 λQJ h61=>?_;rw[cF];refine⟨aX d6 d6,ss.length-(i+1),d6,i+1,ks'.drop q,rfl,rfl,rfl,rfl,d8,aA,h61,by simp;omega,?_,e5⟩;rw[Eo];exact sh
     have go:q<min (ks'.length-sm) s.ph->(∀k,ks'[q]?=some k->s.c.is k)->jj u0 (oF ss) (.box b6 0) (bv (sm:Nat)) (bv (q:Nat)) (oF ss) (bv ss.length) (bv (i:Nat)) (.bool true) dc:=λhql hqs=>by
      refine uH _ _ _ _ _ _ _ _ _ _ ?_;refine cO ?_;rw[cF];refine⟨aX d6 d6,ks'.length-(q+1),d6,q+1,rfl,rfl,rfl,rfl,rfl,d8,rfl,rfl,rfl,d6,λp hp hpq=>?_,g6,e5⟩;rcases ik p q with aA|gL
      . exact cg p hp aA
      . have:p=q:=by omega
        subst this;exact hqs _ (by simp[hp])
     have ph:q=min (ks'.length-sm) s.ph->y9 ks' s sm=q:=λMt=>by
      unfold y9;rw[<-Mt];refine IU (λp hp hpq=>?_) (by simp;omega) (.inl (by simp;omega));have:=cg p (by simp at hp;omega) hpq;simpa using this
     simp only[RB,ao,jA,il,jB];refine⟨aX d6 d6,?_⟩;rw[aY,ao]
     by_cases h1:(q:Int)<(ks'.length:Int)-(sm:Nat)
     . simp only[h1,cC,aF,eG];refine fD (agp (LW g6 rfl ?_));rw[aY];refine fD ?_;simp only[av,if_true,ao]
       by_cases h2:(q:Int)<(s.ph:Nat)
       . have hqk:q<ks'.length:=by omega
         have hx:ks'[q]?=some ks'[q]:=by simp[hqk]
         simp only[h2,cC,aF,eG];refine agp (LW g6 rfl (fD (fD (ah5 hv0 hx λL=>?_))));refine cO ?_;refine af8 ⟨λb hb=>rfl,?_⟩;simp only[av,if_true,ao];cases hc:s.c.is ks'[q] with
         | true=>exact go d6 λk hk=>by rw[hx]at hk;cases hk;exact hc
         | false =>
           refine stop ?_;unfold y9;refine IU (λp hp hpq=>?_) (by simp;omega) (.inr ⟨by simp;omega,by simpa using hc⟩);have:=cg p (by simp at hp;omega) hpq;simpa using this
       . simp only[h2,cZ,aF,show (false==true)=false from rfl,aw,bB,av,bW,if_false,ao];exact cz (stop (ph d6))
     . simp only[h1,cZ,aF,show (false==true)=false from rfl,aw,bB,av,bW,if_false,ao];exact cz (stop (ph d6))
 . have hi:i=ss.length:=by omega
   subst hi;rw[List.drop_length]at sh;have RB:dK (some false) v0=.val (bv ks'.length):=hv0.len;rw[RB,ad];refine ib (aq.eq (h _ e1) ?_);rw[<-sh,dB,AV.bool.injEq,oN,List.isEmpty_iff,dU];constructor
   . intro h;exact ti.1 d6
   . rintro rfl;rfl
def MN(l:List Nd)(en:Int):Nat->Nat->Nat
 | 0,p=>p
 | f+1,p=>match l[p]? with
   | some x=>if (p:Int)<en/\0<x.size then MN l en f (p+x.size.toNat) else p
   | none=>p
def behind(l:List Nd)(p:Nat)(ks:List Nat):Nat:=ks.foldl (λ_ k=>k+iY l k) p
def EM(l:List Nd)(p:Nat)(ks:List Nat)(k:Nat):behind l p (ks++[k])=k+iY l k:=by simp[behind]
def JS(l:List Nd)(en:Int):∀(f p:Nat),behind l p (ix l en f p)=MN l en f p
 | 0,p=>rfl
 | f+1,p=>by
   simp only[ix,MN];cases hx:l[p]? with
   | none=>rfl
   | some x =>
     simp only
     by_cases h:(p:Int)<en/\0<x.size
     . rw[if_pos h,if_pos h,<-JS l en f];have:iY l p=x.size.toNat:=by unfold iY;rw[hx];rfl
       simp only[behind,List.foldl_cons,this]
     . rw[if_neg h,if_neg h];rfl
variable {l:List Nd}
def JT(hs:CI l){en:Nat}(hen:en<=l.length):∀(f p:Nat),MN l en f p=rV l en f p
 | 0,p=>rfl
 | f+1,p=>by
   simp only[MN]
   by_cases hp:p<en
   . have aA:p<l.length:=by omega
     have hx:l[p]?=some l[p]:=by simp[aA]
     have:=hs.2.2 p _ hx;rw[xv hx hp,hx];simp only;rw[if_pos ⟨d6,d6⟩];exact JT hs hen f _
   . rw[xw hp];split
     . rw[if_neg (λh=>hp d6)]
     . rfl
def kJ(l:List Nd)(ks:List Nat):List Int:=ks.map λk=>((l[k]?.map Nd.kind).getD 0)
def l8(l:List Nd)(n:Nat)(x:Nd):Bool:=match bS x.kind with
 | none=>false
 | some f=>decide (1<=x.size/\x.size<=(l.length:Int)-n)&&(fx x f&&((ix l ((n:Int)+x.size) l.length (n+1)).all (λk=>decide (1<=iY l k/\(k:Int)+iY l k<=n+x.size)) &&
    (decide (((behind l (n+1) (ix l ((n:Int)+x.size) l.length (n+1)):Nat):Int)=n+x.size)&&dB (kJ l (ix l ((n:Int)+x.size) l.length (n+1))) f.kids)))
def J3{n:Nat}{s:Tre}{x:Nd}(hs:dP l n s)(hx:l[n]?=some x):l8 l n x=rL x (s.kids.map Tre.kind):=by
 obtain⟨y,hy,_,gj,_⟩:=hs.oS;rw[hx]at hy;cases hy;have hle:=hs.le;have tc:=s.eC;have hk:ix l ((n:Int)+x.size) l.length (n+1)=bH (n+1) s.kids:=by rw[gj];exact BF hs
 have p6:=lQ s;have ji:∀(ts:List Tre)(p:Nat),sf l p ts->(bH p ts).all (λk=>decide (1<=iY l k/\(k:Int)+iY l k<=(p:Int)+(Tre.cH ts).length))/\behind l p (bH p ts)=p+(Tre.cH ts).length/\kJ l (bH p ts)=ts.map Tre.kind:=by
  intro ts
  induction ts with
  | nil=>intro p _;simp[bH,behind,kJ]
  | cons t ts ih =>
    intro p ra;obtain⟨z,hz,Ur,AD,_⟩:=ra.head.oS;have htp:=t.eC;have PO:iY l p=t.flat.length:=by unfold iY;rw[hz];simp;omega
    obtain⟨i1,i2,i3⟩:=ih _ ra.tail;refine⟨?_,?_,?_⟩
    . simp only[bH,List.all_cons,cS,dU,PO,Tre.dT,dx];refine⟨⟨d6,d6⟩,?_⟩;rw[fQ]at i1 ⊢;intro k hk;have:=i1 k hk;simp only[dU]at this ⊢;omega
    . simp only[bH,behind,List.foldl_cons,PO];have:behind l (p+t.flat.length) (bH (p+t.flat.length) ts)=p+(Tre.cH (t::ts)).length:=by rw[i2];simp;omega
      exact this
    . simp only[bH,kJ,fh,hz,Option.map_some,Option.getD_some,Ur];congr 1
 obtain⟨h1,h2,h3⟩:=ji s.kids (n+1) hs.kids;unfold l8 rL tU;cases hf:bS x.kind with
 | none=>simp
 | some f =>
   simp only;rw[hk,Ji hf,h2,h3];have e1:decide (1<=x.size/\x.size<=(l.length:Int)-n):=by rw[dU];omega
   have e2:(bH (n+1) s.kids).all (λk=>decide (1<=iY l k/\(k:Int)+iY l k<=n+x.size)):=by
    rw[fQ]at h1 ⊢;intro k hk;have:=h1 k hk;simp only[dU]at this ⊢;omega
   have e3:decide (((n+1+(Tre.cH s.kids).length:Nat):Int)=n+x.size):=by rw[dU];omega
   rw[e1,e2,e3];simp
def Fm(cD:l≠[])(h0:oD l=l.length)(h:∀n x,l[n]?=some x->l8 l n x):Bh l:=by
 have yd:CI l:=by
  refine⟨cD,h0,λi x hx=>?_⟩;have:=h i x hx;unfold l8 at this;split at this
  . cases this
  . simp only[cS,dU]at this;exact this.1
 refine⟨yd,λi x hx=>?_⟩;have hq:=h i x hx;have Uh:=yd.2.2 i x hx;unfold l8 at hq;split at hq
 . cases hq
 . simp only[cS,dU]at hq;have hb:=hq.2.2.2.1;rw[JS]at hb;have e:((i:Int)+x.size)=((i+x.size.toNat:Nat):Int):=by omega
   rw[e]at hb;rw[<-JT yd d6]
   exact_mod_cast hb
def Kb{x0:Nd}(h0:l[0]?=some x0):(x0.kind=1/\x0.size=l.length/\∀n x,l[n]?=some x->l8 l n x)↔∃t:Tre,l=t.flat/\t.kind=1/\t.ok:=by
 constructor
 . rintro⟨h1,h2,h3⟩;have cD:l≠[]:=by intro e;subst e;simp at h0
   have wS:oD l=l.length:=by
    cases l with
    | nil=>exact absurd rfl cD
    | cons y r=>simp at h0;subst h0;exact h2
   obtain⟨t,rfl⟩:=(zk l).1 (Fm cD wS h3);obtain⟨y,hy,hk,_⟩:=(dP.whole t).oS;rw[h0]at hy;cases hy;refine⟨t,rfl,by rw[<-hk,h1],?_⟩;have:=Hn (l:=t.flat) _ [t] 0 (da _) ⟨[],d8⟩ (λj s x _ hj hs hx=>by rw[<-J3 hs hx];exact h3 j x hx);simpa using this
 . rintro⟨t,rfl,hk,ho⟩;obtain⟨y,hy,hyk,hys,_⟩:=(dP.whole t).oS;rw[h0]at hy;cases hy;refine⟨by rw[hyk,hk],hys,λn x hx=>?_⟩;obtain⟨⟨s,_,hs,_⟩,_⟩:=place t (dw.1 hx).1;rw[J3 hs hx];exact FV (HF ho hs) hs hx
def Bk(h9:¬ 900<l.length)(h:¬ ∃t:Tre,l=t.flat/\t.kind=1/\t.ok):iU l=4:=by
 unfold iU;rw[if_neg h9];cases ht:Cb l with
 | none=>rfl
 | some t =>
   have:=ZV ht;subst this;show uP t=4;unfold uP;rw[if_pos]
   by_cases hk:t.kind=1
   . right;cases ho:t.ok with
     | false=>rfl
     | true=>exact absurd ⟨t,rfl,hk,ho⟩ h
   . exact .inl hk
def Pn{c:UInt8}(h:dp c):kO c/\c.toNat≠32/\c.toNat≠10/\c.toNat≠126:=by
 simp only[dp,fE,lY,BC,ml,dU]at h;simp only[kO,dU];omega
def BM{s:aT}(h:gr s):lF s=.ok [⟨1,s,0⟩]:=by
 have hlen:=OM h;unfold gr at h;rw[dU]at h;rcases rz h with ⟨_,_,_,⟨c,r,e,hc⟩,cg⟩|h'|h'|h'
 . have Ih:pG s=(0,0):=by
    unfold pG;rw[if_neg d6];have:s.findIdx? (λc=>!kO c)=none:=by
     rw[List.findIdx?_eq_none_iff];intro x hx;rw[fQ]at cg;have:=Pn (cg x hx);simp[this.1]
    rw[this]
   unfold lF;rw[Ih];simp only[ne_eq,not_true,if_false];obtain⟨n,hn⟩:∃n,s.length=n+1:=⟨r.length,by rw[e];simp⟩;rw[hn,iy];subst e;have akX:=Pn (show dp c by rw[fQ]at cg;exact cg c d8);simp only[eR];rw[if_neg d6,if_neg d6,h];simp only[ne_eq,not_true,if_false,nQ,show ¬ ((0:Nat)=900) by omega,cK,mQ];have Ax:r.length=n:=by simpa using hn
   cases n with
   | zero=>simp only[iy]
   | succ n =>
     rw[iy,List.drop_of_length_le d8]
 . omega
 . omega
 . omega
where
 OM {s:aT} (h:gr s):s.length<=12:=by
  unfold gr at h;rw[dU]at h;rcases rz h with h|h|h|h
  . exact h.2.2.1
  . omega
  . omega
  . omega
def Sd(s:aT)(hs:s.length<=3000):Pure K 208 [.str s] (.bool (gr s)):=by
 intro U R hR;refine Yx ?_;dsimp only[Yw,fR,eh,qk,se,zu,cU,ae,ah,ar,bX,dm];refine (Fv s hs).go ?_;cases hl:lF s with
 | bad p e =>
   have hn:gr s=false:=by
    cases h:gr s with
    | false=>rfl
    | true=>rw[BM h]at hl;cases hl
   rw[hn]at hR;have he:e≠0:=by
    unfold lF at hl;split at hl;split at hl
    . rename_i he;cases hl;exact he
    . exact yZ _ _ _ _ hl
   simp only[qh,bN,List.drop,bI,aN,ad,he,cZ,aF,show (false==true)=false from rfl,aw,bB,av,bW,if_false];exact aq.mk hR
 | ok L =>
   simp only[qh,bN,List.drop,bI,aN,ad,cC,aF,eG];have ub:=acP L;have hlen:dK (some false) (pz L)=.val (bv L.length):=ub.len;refine fD ?_;rw[hlen];refine fD ?_;rw[aN];refine fD ?_;simp only[av,if_true,ad]
   by_cases h1:L.length=1
   . match L,h1 with
     | [t],_ =>
       have kI:o4 t:=(Iq hl).1 t d8;have tok:∀(o:Nat)(c:AV)(kq:AV->Prop),(jD t)[o]?=some c->kq c->aI K (.bool true) (bJ (some (51,3)) none (pz [t]) (bv 0)) λa=>aI K (.bool true) (bu (some o) a) λb=>aI K (.bool true) (bj (some (false,1)) b U) kq:=λo c kq hc hk=>by
        obtain⟨r',yc⟩:=FG hc [];refine lS ⟨d8,?_⟩;refine lS ?_;simp only[Int.toNat_zero,Nat.zero_mul,eR,dX,ao];refine lS ?_;rw[oA,show gu [t]=jD t++[] from rfl,yc,gg];exact hk
       simp only[jm,nQ,cK,show ((1:Nat):Int)=1 from rfl,cC,aF,eG];refine fD (tok 0 (co t.k) _ rfl ?_);rw[aN];refine fD ?_;simp only[av,if_true,ad]
       by_cases hk:(t.k:Int)=1
       . simp only[hk,cC,aF,eG];refine fD (tok 1 (.str t.s) _ rfl (fD ?_));rw[hU];refine fD ?_;simp only[av,if_true,ad];refine aq.eq hR ?_;rw[AV.bool.injEq,oN,dU];constructor
         . intro h;have:=kI.2;rw[show t.k=1 by omega]at this;rw[<-h];unfold gr;rw[this];simp
         . intro h;rw[BM h]at hl;cases hl;rfl
       . simp only[hk,cZ,aF,show (false==true)=false from rfl,aw,bB,av,bW,if_false,ad];refine aq.eq hR ?_;cases h:gr s with
         | false=>rfl
         | true=>rw[BM h]at hl;cases hl;exact absurd rfl hk
   . have xR:¬ (L.length:Int)=1:=by omega
     simp only[xR,cZ,aF,show (false==true)=false from rfl,aw,bB,av,bW,if_false,ad];refine aq.eq hR ?_;cases h:gr s with
     | false=>rfl
     | true=>rw[BM h]at hl;cases hl;exact absurd rfl h1
where
 acP (l:List Tk):dz (pz l) l.length (gu l):=by
  unfold pz;split
  . rename_i h;subst h;exact .inl ⟨rfl,rfl,rfl⟩
  . exact .inr ⟨_,rfl⟩
 yZ:∀(f:Nat)(s:aT)(p:Nat)(l:List Tk){q:Nat}{e:Int},iy f s p l=.bad q e->e≠0
  | 0,s,p,l,q,e,h=>by simp[iy]at h
  | f+1,s,p,l,q,e,h=>by
    simp only[iy]at h;split at h
    . cases h
    . split at h
      . exact yZ f s _ l h
      . split at h
        . exact yZ f s _ l h
        . split at h
          . rename_i he;cases h;exact he
          . split at h
            . cases h;omega
            . exact yZ f s _ _ h
end Go.Rip
