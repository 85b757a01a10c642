/- Lemmas for the proof: no conditions. -/
import Derived.Test.YtnfpmiiopiinbaaGreatDoorRipZz
import Derived.Test.YtnfpmiiopiinbaaGreatDoorRipS
import Derived.Test.YtnfpmiiopiinbaaGreatDoorRipH
import Derived.Test.YtnfpmiiopiinbaaGreatDoorRipG
import Derived.Test.YtnfpmiiopiinbaaGreatDoorRipP
set_option linter.unusedVariables false
set_option linter.unusedSimpArgs false
set_option linter.loopingSimpArgs false
namespace Go.Rip
open Go.Proofs Go.RowKit
theorem Fg (k:Int):Pure K 179 [.int .u8 k] (.bool (jB k)):=by
 intro U R hR;refine Vd ?_;unfold Vc;rw[jc,al];refine Zm (λ _=>nG ..) (aq.eq hR ?_);simp only[jB,AV.bool.injEq]; grind
theorem Ff (k:Int):Pure K 206 [.int .u8 k] (.bool (pA k)):=by
 intro U R hR;refine Vp ?_;unfold Vo;rw[bA,al];refine PL (λ _=>bA ..) (aq.eq hR ?_);simp only[pA,AV.bool.injEq]; grind
theorem Fj (k:Int):Pure K 181 [.int .u8 k] (.bool (qw k)):=by
 intro U R hR;refine Vh ?_;unfold Vg;refine (Ff k).go ?_;refine PL (λ _=>bA ..) (aq.eq hR ?_);simp only[pA,qw,AV.bool.injEq]; grind
theorem zx (k:Int):Pure K 185 [.int .u8 k] (.bool (cE k)):=by
 intro U R hR;refine Vj ?_;unfold Vi;rw[jc,al];refine Zm (λ _=>nG ..) (aq.eq hR ?_);simp only[cE,AV.bool.injEq]; grind
theorem TB (k:Int):Pure K 207 [.int .u8 k] (.bool (oo k)):=by
 intro U R hR;refine Vr ?_;unfold Vq;refine (zx k).go ?_;refine PL (λ _=>bA ..) ?_;refine PL (λ _=>bA ..) (aq.eq hR ?_);simp only[cE,oo,AV.bool.injEq]; grind
theorem QI (k c:Int):Pure K 242 [.int .u8 k,.da [.int .u8 c]] (.bool (decide (k=c))):=by
 intro U R hR;refine VS ?_;unfold VR;rw[oK,bC];exact FO (aq.mk hR)
theorem rk (a b n:Int):Pure K 122 [.int .i64 a,.int .i64 b,.int .i64 n] (.bool (decide (a<=n/\n<=b))):=by
 intro U R hR;refine Uo ?_;unfold Un;refine afX ?_
 by_cases h:a<=n
 . simp only[h,dG,bo,iY];refine oV (oV ?_);rw[nG];refine oV ?_;simp only[aQ,if_true,al];refine aq.eq hR ?_;simp[h]
 . simp only[h,eS,bo,show (false==true)=false from rfl,aP,cN,aQ,bZ,if_false,al];refine aq.eq hR ?_;simp[h]
def AE:jv->AV
 | .item=>.func (.func 179) [] []
 | .type=>.func (.func 181) [] []
 | .base=>.func (.func 206) [] []
 | .term=>.func (.func 185) [] []
 | .arg=>.func (.func 207) [] []
 | .kind c=>.func (.func 242) [] [.da [.int .u8 c]]
theorem ad8 {c:jv} {k:Int} {U:St} {K':AV->St->Prop} {Kp:AV->St->Prop} (h:K' (.bool (c.is k)) U):(jz K.P (AE c) [.int .u8 k]).wp K U K' Kp:=by
 cases c with
 | item=>simp only[AE,jz,show fC K.P 179=true by kernel_rfl,if_true,mL,eH,gx]; exact (Fg k).go h
 | type=>simp only[AE,jz,show fC K.P 181=true by kernel_rfl,if_true,mL,eH,gx]; exact (Fj k).go h
 | base=>simp only[AE,jz,show fC K.P 206=true by kernel_rfl,if_true,mL,eH,gx]; exact (Ff k).go h
 | term=>simp only[AE,jz,show fC K.P 185=true by kernel_rfl,if_true,mL,eH,gx]; exact (zx k).go h
 | arg=>simp only[AE,jz,show fC K.P 207=true by kernel_rfl,if_true,mL,eH,gx]; exact (TB k).go h
 | kind c=>simp only[AE,jz,show fC K.P 242=true by kernel_rfl,if_true,mL,eH,dK]; exact (QI k c).go h
def oE (s:mv):List AV:=[AE s.c,.int .i64 (s.least:Nat),.int .i64 (s.o6:Nat)]
def pV (l:List mv):List AV:=l.flatMap oE
def nz (l:List mv):AV:=if l=[] then .ag else .vec l.length .full (pV l)
def pE (f:gS):List AV:=[.bool f.text,.bool f.n,.bool f.m,nz f.kids]
theorem L7 (L:List mv):(pV L).length=3*L.length:=by
 induction L with
 | nil=>rfl
 | cons t L ih =>
   have:(pV (t::L)).length=3+(pV L).length:=by simp[pV,oE]; omega
   rw[this,ih,eX]; omega
theorem Fy (L:List mv) (i:Nat):(pV L).drop (i*3)=pV (L.drop i):=by
 induction L generalizing i with
 | nil=>simp[pV]
 | cons t L ih =>
   cases i with
   | zero=>simp
   | succ i =>
     rw[Nat.add_mul,show i*3+1*3=3+i*3 by omega,<- List.drop_drop,List.drop_succ_cons,<- ih];rfl
theorem YF {L:List mv} {i:Nat} {t:mv} (h:L[i]?=some t):∃ r,(pV L).drop (i*3)=oE t++r:=by
 rw[Fy,gM (dp.1 h).1];refine⟨pV (L.drop (i+1)),?_⟩;have:=(dp.1 h).2;simp[pV,this]
theorem YG (l:List mv):eW (nz l) l.length (pV l):=by
 unfold nz;split
 . rename_i h; subst h; exact .inl ⟨rfl,rfl,rfl⟩
 . exact .inr ⟨_,rfl⟩
theorem aaX {v:AV} {ss:List mv} {s:mv} {i:Nat} {U:St} {K':AV->St->Prop} {Kp:AV->St->Prop} (hv:eW v ss.length (pV ss)) (hs:ss[i]?=some s) (hk:K' (.agg (oE s)) U) :
 (aE (some (200,3)) none v (.int .i64 (i:Nat))).wp K U (λ p U=>(ak (some (true,3)) p U).wp K U K' Kp) Kp:=by
 have aN:=(dp.1 hs).1;obtain⟨c,rfl,uO⟩:=hv.at (sz:=3) (e:=200) aN;obtain⟨r,hr⟩:=YF hs;rw[uO,hr];refine⟨by omega,?_⟩;rw[al,tS];refine⟨by simp[oE],?_⟩;have:(oE s++r).take 3=oE s:=by simp[oE]
 rw[this]; exact hk
theorem H4 {k:Int} {z:AV}:∀ (ks:List Int) (vs:List AV),(∀ j∈ks,j≠k)->oZ .i (.int .u8 k) z true (ks.map (.int .u8)) vs=.val (.aK [z,.bool false])
 | [],vs,_=>by cases vs<;>rfl
 | j::ks,[],_=>rfl
 | j::ks,v::vs,h=>by
   have hj:¬ k=j:=λ e=>h j (by simp) e.symm;have:jg .i (.int .u8 k) (.int .u8 j)=some false:=by simp[jg,hj]
   simp only[dH,oZ,this,bZ,if_false];exact H4 ks vs λ x hx=>h x (by simp[hx])
def MA:AV:=.agg [AV.bool false,AV.bool false,AV.bool false,AV.ag]
def Tt (n:Nat):Bool:=match qU with
 | .gJ ks vs=>(match oZ .i (.int .u8 n) MA true ks vs with
   | .val v=>kD v (match bG n with|some f=>.aK [.agg (pE f),.bool true]|none=>.aK [MA,.bool false])
   | _=>false)
 | _=>false
theorem QD:∀ n:Fin 38,Tt n.val=true:=by decide +kernel
end Go.Rip
namespace Go.Rip
open Go.Proofs Go.RowKit
theorem M0 (ks:List Int):(pG ks).length=ks.length:=by simp[pG]
theorem agV {U:St} {v:AV} {ks:List Int} {i e:Nat} {k:Int} {kq:AV->AV->Prop} (hv:eW v ks.length (pG ks)) (hk:ks[i]?=some k) (h:∀ L,kq (.da L) (.int .u8 k)) :
 ao K (.bool true) (aE (some (e,1)) none v (.int .i64 (i:Nat))) λ p=>ao K (.bool true) (ak (some (false,1)) p U) (kq p):=by
 have aN:=(dp.1 hk).1;obtain⟨c,rfl,uO⟩:=hv.at (sz:=1) (e:=e) aN;obtain⟨r,hr⟩:=abB hk;rw[uO,Nat.mul_one,hr];exact tI ⟨by omega,tI (h _)⟩
theorem aeS {v:AV} {ks:List Int} {i:Nat} {e:Nat} {U:St} {K':AV->St->Prop} {Kp:AV->St->Prop} (hv:eW v ks.length (pG ks)) (hi:i<=ks.length) (hk:∀ v',eW v' (ks.drop i).length (pG (ks.drop i))->K' v' U) :
 (eD false (some (e,1)) v (some (.int .i64 (i:Nat))) none).wp K U K' Kp:=by
 rcases hv with ⟨h0,h1,rfl⟩|⟨c,rfl⟩
 . have iW:ks=[]:=rL.1 h0;subst iW;have AW:i=0:=by simpa using hi
   subst AW;simp only[eD,eI,wp_cond,al];refine⟨by simp,hk _ (.inl ⟨rfl,rfl,rfl⟩)⟩
 . rw[BJ,kU,oT];refine⟨by omega,?_⟩;refine hk _ (.inr ⟨yO c none,?_⟩);have:ks.length-i=(ks.drop i).length:=by rw[List.length_drop]
   simp only[fW,Nat.mul_one,this];rw[qg (by rw[M0]; exact bX _)];congr 1;simp[pG,List.map_drop]
theorem aci {ss:List mv} {i:Nat} {U:St} {K':AV->St->Prop} {Kp:AV->St->Prop} (hi:i<ss.length) (hk:∀ v',eW v' (ss.drop (i+1)).length (pV (ss.drop (i+1)))->K' v' U) :
 (eD false (some (200,3)) (nz ss) (some (.int .i64 ((i:Nat)+1))) none).wp K U K' Kp:=by
 have ca:ss≠[]:=by intro e; subst e; simp at hi
 unfold nz;rw[if_neg ca,BJ,kU,oT];refine⟨by omega,?_⟩;refine hk _ (.inr ⟨yO .full none,?_⟩);have:(ss.length:Int).toNat-((i:Int)+1).toNat=(ss.drop (i+1)).length:=by rw[List.length_drop]; omega
 rw[this];congr 1;rw[fW,qg (by rw[L7]; omega),show ((i:Int)+1).toNat=i+1 by omega,Fy]
def wM (ks:List Int) (s:mv) (rest:Nat):Nat:=((ks.take (min (ks.length-rest) s.o6)).takeWhile s.c.is).length
theorem Sa (ks:List Int) (s:mv) (ss:List mv):ep ks (s::ss)=if wM ks s (ss.map (·.least)).sum<s.least then false else ep (ks.drop (wM ks s (ss.map (·.least)).sum)) ss:=by
 rw[ep]; rfl
theorem GQ {p:Int->Bool}:∀ {l:List Int} {i:Nat},(∀ j (h:j<l.length),j<i->p l[j]=true)->i<=l.length->(i=l.length\/∃ h:i<l.length,p l[i]=false)->(l.takeWhile p).length=i
 | [],i,_,hi,_=>by simp at hi; simp[hi]
 | a::l,0,_,_,he=>by
   rcases he with he|⟨h,he⟩
   . simp at he
   . rw[mV]; simp at he; simp[he]
 | a::l,i+1,ck,hi,he=>by
   have ha:p a=true:=ck 0 (by simp) (by omega);rw[mV,if_pos ha,eX];congr 1;refine GQ (λ j h hj=>?_) (by simpa using hi) ?_
   . have:=ck (j+1) (by simp; omega) (by omega);simpa using this
   . rcases he with he|⟨h,he⟩
     . left; simpa using he
     . right; exact⟨by simpa using h,by simpa using he⟩
theorem aed {U:St} {R:cV->St->Prop} {v:AV} {ks:List Int} {ss:List mv} (hv:eW v ks.length (pG ks)) (hl:ks.length<=100000) (sC:ss.length<=100) (qX:∀ s∈ss,s.least<=1000/\s.o6<=1000)
 (h:∀ ad,cX U ad->R (.ret (.bool (ep ks ss))) ad):ae K 209 [v,nz ss] U R:=by
 refine Vv ?_;unfold Vu;have hss:=YG ss;have hlen:cr (some false) (nz ss)=.val (.int .i64 ss.length):=hss.len;rw[hlen,al];refine⟨λ m v0 v1 v11 v12 cn ad=>∃ (i:Nat) (ks':List Int),m=ss.length-i/\v1=nz ss/\v11=nz ss/\v12=.int .i64 ss.length/\cn=.int .i64 (i:Nat)/\i<=ss.length/\eW v0 ks'.length (pG ks')/\ks'.length<=ks.length/\ep ks' (ss.drop i)=ep ks ss/\cX U ad,
  ⟨_,0,ks,rfl,rfl,rfl,rfl,rfl,by omega,hv,bX _,rfl,cX.refl _⟩,?_⟩
 rintro m v0 v1 v11 v12 cn aS ⟨i,ks',rfl,rfl,rfl,rfl,rfl,hi,ZU,ta,qJ,e1⟩;refine Mv (λ aN=>?_) λ kV=>?_
 . have aN:i<ss.length:=by omega
   obtain⟨s,hs⟩:∃ s,ss[i]?=some s:=⟨ss[i],by simp[aN]⟩;have Oa:=qX s (gw hs);have PX:ss.drop i=s::ss.drop (i+1):=by
    rw[gM aN];have:=(dp.1 hs).2;rw[this]
   refine aaX hss hs ?_;rw[cm];intro b6 rW;have m6:(aS.new b6 (.box [AV.eA,AV.int .i64 0,AV.int .i64 0])).box b6=some [AV.eA,AV.int .i64 0,AV.int .i64 0]:=aD;have e2:=e1.new rW (x:=.box [AV.eA,AV.int .i64 0,AV.int .i64 0]);have f6:=e1.fresh rW.1;generalize aS.new b6 (.box [AV.eA,AV.int .i64 0,AV.int .i64 0])=bf at *;rw[cI m6];refine⟨⟨rfl,rfl,by simp⟩,?_⟩;have g6:(bf.set b6 (.box (ay [AV.eA,AV.int .i64 0,AV.int .i64 0] 0 (av (.agg (oE s)))))).box b6=some (oE s):=by rw[aT]; rfl
   have e3:=e2.set f6 (x:=.box (ay [AV.eA,AV.int .i64 0,AV.int .i64 0] 0 (av (.agg (oE s)))));generalize bf.set b6 (.box (ay [AV.eA,AV.int .i64 0,AV.int .i64 0] 0 (av (.agg (oE s)))))=bR at *;rw[dO];refine⟨bI (by omega) (by omega),?_⟩;refine aci aN λ v21 h21=>?_;have aeJ:cr (some false) v21=.val (.int .i64 (ss.drop (i+1)).length):=h21.len;rw[aeJ,al];generalize P6:ss.drop (i+1)=rest at *;have hrl:rest.length<=100:=by rw[<- P6,List.length_drop]; omega
   have hrm:∀ s∈rest,s.least<=1000:=λ s hs=>(qX s (by rw[<- P6]at hs; exact List.mem_of_mem_drop hs)).1;have Xu:∀ n,((rest.take n).map (·.least)).sum<=1000*n:=by
    have:∀ (l:List mv) (n:Nat),(∀ s∈l,s.least<=1000)->((l.take n).map (·.least)).sum<=1000*n:=by
     intro l
     induction l with
     | nil=>intro n _; simp
     | cons a l ih =>
       intro n hm;cases n with
       | zero=>simp
       | succ n =>
         have:=ih n λ s hs=>hm s (by simp[hs]);have:=hm a (by simp);simp only[List.take_succ_cons,dH,List.sum_cons]; omega
    exact λ n=>this rest n hrm
   refine⟨λ m w0 w1 w6 w7 Wm Wn BU w21 w22 w23 ad=>∃ j:Nat,m=rest.length-j/\w0=v0/\w1=nz ss/\w6=.box b6 0/\w7=.int .i64 (((rest.take j).map (·.least)).sum:Nat)/\Wm=nz ss/\Wn=.int .i64 ss.length/\BU=.int .i64 (i:Nat)/\w21=v21/\w22=.int .i64 rest.length/\w23=.int .i64 (j:Nat)/\j<=rest.length/\ad.box b6=some (oE s)/\cX U ad,
    ⟨_,0,rfl,rfl,rfl,rfl,rfl,rfl,rfl,rfl,rfl,rfl,rfl,by omega,g6,e3⟩,?_⟩
   clear e2 e3 g6 m6 rW;rintro m w0 w1 w6 w7 Wm Wn BU w21 w22 w23 cP ⟨j,rfl,rfl,rfl,rfl,rfl,rfl,rfl,rfl,rfl,rfl,rfl,hj,g6,e4⟩;refine Mv (λ KA=>?_) λ akz=>?_
   . have KA:j<rest.length:=by omega
     obtain⟨s2,rZ⟩:∃ s2,rest[j]?=some s2:=⟨rest[j],by simp[KA]⟩;refine aaX h21 rZ ?_;rw[cm];intro b9 AQ;have m9:(cP.new b9 (.box [AV.eA,AV.int .i64 0,AV.int .i64 0])).box b9=some [AV.eA,AV.int .i64 0,AV.int .i64 0]:=aD;have e5:=e4.new AQ (x:=.box [AV.eA,AV.int .i64 0,AV.int .i64 0]);have f9:=e4.fresh AQ.1;have n9:=AQ.bO g6;have g6':=(bg AQ (x:=.box [AV.eA,AV.int .i64 0,AV.int .i64 0])).aY g6;generalize cP.new b9 (.box [AV.eA,AV.int .i64 0,AV.int .i64 0])=du at *;rw[cI m9];refine⟨⟨rfl,rfl,by simp⟩,?_⟩;have g9:(du.set b9 (.box (ay [AV.eA,AV.int .i64 0,AV.int .i64 0] 0 (av (.agg (oE s2)))))).box b9=some (oE s2):=by rw[aT]; rfl
     have ais:(du.set b9 (.box (ay [AV.eA,AV.int .i64 0,AV.int .i64 0] 0 (av (.agg (oE s2)))))).box b6=some (oE s):=by rw[aO n9]; exact g6'
     have e6:=e5.set f9 (x:=.box (ay [AV.eA,AV.int .i64 0,AV.int .i64 0] 0 (av (.agg (oE s2)))));generalize du.set b9 (.box (ay [AV.eA,AV.int .i64 0,AV.int .i64 0] 0 (av (.agg (oE s2)))))=mh at *;simp only[bh,al,db];refine ej g9 rfl ?_;have iN:=Xu j;have gz:=hrm s2 (gw rZ);rw[dO];refine⟨bI (by omega) (by omega),?_⟩;rw[dO];refine⟨bI (by omega) (by omega),rest.length-(j+1),by omega,j+1,rfl,rfl,rfl,rfl,?_,rfl,rfl,rfl,rfl,rfl,by simp,KA,ais,e6⟩;have:rest.take (j+1)=rest.take j++[s2]:=by rw[tK,rZ]; rfl
     rw[this]; simp
   . have hj:j=rest.length:=by omega
     subst hj;rw[tJ];have iN:=Xu rest.length;rw[tJ]at iN;generalize ai0:(rest.map (·.least)).sum=sm at *;have ag7:ep ks' (s::rest)=if wM ks' s sm<s.least then false else ep (ks'.drop (wM ks' s sm)) rest:=by rw[Sa,ai0]
     rw[PX,ag7]at qJ;refine⟨λ m u0 w1 w6 w7 wZ Wm Wn BU ad=>∃ q:Nat,m=ks'.length-q/\u0=w0/\w1=nz ss/\w6=.box b6 0/\w7=.int .i64 (sm:Nat)/\wZ=.int .i64 (q:Nat)/\Wm=nz ss/\Wn=.int .i64 ss.length/\BU=.int .i64 (i:Nat)/\q<=min (ks'.length-sm) s.o6/\(∀ (p:Nat) (hp:p<ks'.length),p<q->s.c.is ks'[p]=true)/\ad.box b6=some (oE s)/\cX U ad,
      ⟨_,0,rfl,rfl,rfl,rfl,rfl,rfl,rfl,rfl,rfl,by omega,λ p hp h=>by omega,g6,e4⟩,?_⟩
     clear g6 e4;rintro m u0 w1 w6 w7 wZ Wm Wn BU du ⟨q,rfl,rfl,rfl,rfl,rfl,rfl,rfl,rfl,rfl,hq,ck,g6,e5⟩;intro jj CS;have P4:cr (some false) u0=.val (.int .i64 ks'.length):=ZU.len;have stop:wM ks' s sm=q->jj u0 (nz ss) (.box b6 0) (.int .i64 (sm:Nat)) (.int .i64 (q:Nat)) (nz ss) (.int .i64 ss.length) (.int .i64 (i:Nat)) (.bool false) du:=λ hmq=>by
      refine CS _ _ _ _ _ _ _ _ _ _ ?_;refine cY ?_;simp only[bh,al,db];refine ej g6 rfl ?_;rw[hmq]at qJ;refine Mv (λ hml=>?_) λ hml=>?_
      . rw[if_pos (by omega)]at qJ;refine aq.mk ?_;rw[qJ]; exact h _ e5
      . rw[if_neg (by omega)]at qJ;refine aeS ZU (by omega) λ nV Zo=>?_;rw[dO];refine⟨bI (by omega) (by omega),ss.length-(i+1),by omega,i+1,ks'.drop q,rfl,rfl,rfl,rfl,by simp,aN,Zo,by simp; omega,?_,e5⟩;rw[P6]; exact qJ
     have go:q<min (ks'.length-sm) s.o6->(∀ k,ks'[q]?=some k->s.c.is k=true)->jj u0 (nz ss) (.box b6 0) (.int .i64 (sm:Nat)) (.int .i64 (q:Nat)) (nz ss) (.int .i64 ss.length) (.int .i64 (i:Nat)) (.bool true) du:=λ hql hqs=>by
      refine CS _ _ _ _ _ _ _ _ _ _ ?_;refine dz ?_;rw[dO];refine⟨bI (by omega) (by omega),ks'.length-(q+1),by omega,q+1,rfl,rfl,rfl,rfl,rfl,by simp,rfl,rfl,rfl,by omega,λ p hp ZO=>?_,g6,e5⟩;rcases kI p q with aN|kV
      . exact ck p hp aN
      . have:p=q:=by omega
        subst this; exact hqs _ (by simp[hp])
     have o6:q=min (ks'.length-sm) s.o6->wM ks' s sm=q:=λ hqe=>by
      unfold wM;rw[<- hqe];refine GQ (λ p hp ZO=>?_) (by simp; omega) (.inl (by simp; omega));have:=ck p (by simp at hp; omega) ZO;simpa using this
     simp only[P4,aJ,l9,iv,jN];refine⟨bI (by omega) (by omega),?_⟩;rw[bV,aJ]
     by_cases h1:(q:Int)<(ks'.length:Int)-(sm:Nat)
     . simp only[h1,dG,bo,iY];refine oV (ael (aem g6 rfl ?_));rw[bV];refine oV ?_;simp only[aQ,if_true,aJ]
       by_cases h2:(q:Int)<(s.o6:Nat)
       . have hqk:q<ks'.length:=by omega
         have hx:ks'[q]?=some ks'[q]:=by simp[hqk]
         simp only[h2,dG,bo,iY];refine ael (aem g6 rfl (oV (oV (agV ZU hx λ L=>?_))));refine dz ?_;refine ad8 ⟨λ b hb=>rfl,?_⟩;simp only[aQ,if_true,aJ];cases hc:s.c.is ks'[q] with
         | true=>exact go (by omega) λ k hk=>by rw[hx]at hk; cases hk; exact hc
         | false =>
           refine stop ?_;unfold wM;refine GQ (λ p hp ZO=>?_) (by simp; omega) (.inr ⟨by simp; omega,by simpa using hc⟩);have:=ck p (by simp at hp; omega) ZO;simpa using this
       . simp only[h2,eS,bo,show (false==true)=false from rfl,aP,cN,aQ,bZ,if_false,aJ];exact cY (stop (o6 (by omega)))
     . simp only[h1,eS,bo,show (false==true)=false from rfl,aP,cN,aQ,bZ,if_false,aJ];exact cY (stop (o6 (by omega)))
 . have hi:i=ss.length:=by omega
   subst hi;rw[List.drop_length]at qJ;have P4:cr (some false) v0=.val (.int .i64 ks'.length):=ZU.len;rw[P4,al];refine FO (aq.eq (h _ e1) ?_);rw[<- qJ,ep,AV.bool.injEq,qO,List.isEmpty_iff,eg];constructor
   . intro h; exact rL.1 (by omega)
   . rintro rfl; rfl
end Go.Rip
namespace Go.Rip
open Go.Proofs Go.RowKit
def K6 (l:List Nd) (en:Int):Nat->Nat->Nat
 | 0,p=>p
 | f+1,p=>match l[p]? with
   | some x=>if (p:Int)<en/\0<x.size then K6 l en f (p+x.size.toNat) else p
   | none=>p
def behind (l:List Nd) (p:Nat) (ks:List Nat):Nat:=ks.foldl (λ _ k=>k+gV l k) p
theorem CF (l:List Nd) (p:Nat) (ks:List Nat) (k:Nat):behind l p (ks++[k])=k+gV l k:=by simp[behind]
theorem HS (l:List Nd) (en:Int):∀ (f p:Nat),behind l p (fO l en f p)=K6 l en f p
 | 0,p=>rfl
 | f+1,p=>by
   simp only[fO,K6];cases hx:l[p]? with
   | none=>rfl
   | some x =>
     simp only
     by_cases h:(p:Int)<en/\0<x.size
     . rw[if_pos h,if_pos h,<- HS l en f];have:gV l p=x.size.toNat:=by unfold gV; rw[hx]; rfl
       simp only[behind,List.foldl_cons,this]
     . rw[if_neg h,if_neg h]; rfl
theorem HT {l:List Nd} (hs:Ed l) {en:Nat} (hen:en<=l.length):∀ (f p:Nat),K6 l en f p=ue l en f p
 | 0,p=>rfl
 | f+1,p=>by
   simp only[K6]
   by_cases hp:p<en
   . have aN:p<l.length:=by omega
     have hx:l[p]?=some l[p]:=by simp[aN]
     have:=hs.2.2 p _ hx;rw[zO hx hp,hx];simp only;rw[if_pos ⟨by omega,by omega⟩];exact HT hs hen f _
   . rw[zP hp];split
     . rw[if_neg (λ h=>hp (by omega))]
     . rfl
def jC (l:List Nd) (ks:List Nat):List Int:=ks.map λ k=>((l[k]?.map Nd.kind).getD 0)
def kQ (l:List Nd) (n:Nat) (x:Nd):Bool:=match bG x.kind with
 | none=>false
 | some f=>decide (1<=x.size/\x.size<=(l.length:Int)-n)&&(eF x f&&((fO l ((n:Int)+x.size) l.length (n+1)).all (λ k=>decide (1<=gV l k/\(k:Int)+gV l k<=n+x.size)) &&
    (decide (((behind l (n+1) (fO l ((n:Int)+x.size) l.length (n+1)):Nat):Int)=n+x.size)&&ep (jC l (fO l ((n:Int)+x.size) l.length (n+1))) f.kids)))
theorem Ia {l:List Nd} {n:Nat} {s:Tre} {x:Nd} (hs:gT l n s) (hx:l[n]?=some x):kQ l n x=zl x (s.kids.map Tre.kind):=by
 obtain⟨y,hy,_,fH,_⟩:=hs.sn;rw[hx]at hy; cases hy;have hle:=hs.le;have mD:=s.dJ;have hk:fO l ((n:Int)+x.size) l.length (n+1)=fK (n+1) s.kids:=by rw[fH]; exact y9 hs
 have CQ:=nI s;have gr:∀ (ts:List Tre) (p:Nat),sk l p ts->(fK p ts).all (λ k=>decide (1<=gV l k/\(k:Int)+gV l k<=(p:Int)+(Tre.bu ts).length))=true/\behind l p (fK p ts)=p+(Tre.bu ts).length/\jC l (fK p ts)=ts.map Tre.kind:=by
  intro ts
  induction ts with
  | nil=>intro p _; simp[fK,behind,jC]
  | cons t ts ih =>
    intro p Gk;obtain⟨z,hz,SO,yc,_⟩:=Gk.head.sn;have htp:=t.dJ;have N9:gV l p=t.flat.length:=by unfold gV; rw[hz]; simp; omega
    obtain⟨i1,i2,i3⟩:=ih _ Gk.tail;refine⟨?_,?_,?_⟩
    . simp only[fK,List.all_cons,cb,eg,N9,Tre.cM,cO];refine⟨⟨by omega,by omega⟩,?_⟩;rw[fm]at i1 ⊢;intro k hk;have:=i1 k hk;simp only[eg]at this ⊢;omega
    . simp only[fK,behind,List.foldl_cons,N9];have:behind l (p+t.flat.length) (fK (p+t.flat.length) ts)=p+(Tre.bu (t::ts)).length:=by rw[i2]; simp; omega
      exact this
    . simp only[fK,jC,dH,hz,Option.map_some,Option.getD_some,SO];congr 1
 obtain⟨h1,h2,h3⟩:=gr s.kids (n+1) hs.kids;unfold kQ zl W6;cases hf:bG x.kind with
 | none=>simp
 | some f =>
   simp only;rw[hk,Hj hf,h2,h3];have e1:decide (1<=x.size/\x.size<=(l.length:Int)-n)=true:=by rw[eg]; omega
   have e2:(fK (n+1) s.kids).all (λ k=>decide (1<=gV l k/\(k:Int)+gV l k<=n+x.size))=true:=by
    rw[fm]at h1 ⊢;intro k hk;have:=h1 k hk;simp only[eg]at this ⊢;omega
   have e3:decide (((n+1+(Tre.bu s.kids).length:Nat):Int)=n+x.size)=true:=by rw[eg]; omega
   rw[e1,e2,e3]; simp
theorem C8 {l:List Nd} (ca:l≠[]) (h0:mQ l=l.length) (h:∀ n x,l[n]?=some x->kQ l n x=true):I6 l:=by
 have A6:Ed l:=by
  refine⟨ca,h0,λ i x hx=>?_⟩;have:=h i x hx;unfold kQ at this;split at this
  . cases this
  . simp only[cb,eg]at this;exact this.1
 refine⟨A6,λ i x hx=>?_⟩;have hq:=h i x hx;have hsx:=A6.2.2 i x hx;unfold kQ at hq;split at hq
 . cases hq
 . simp only[cb,eg]at hq;have hb:=hq.2.2.2.1;rw[HS]at hb;have e:((i:Int)+x.size)=((i+x.size.toNat:Nat):Int):=by omega
   rw[e]at hb;rw[<- HT A6 (by omega)]
   exact_mod_cast hb
theorem Ir {l:List Nd} {x0:Nd} (h0:l[0]?=some x0):(x0.kind=1/\x0.size=l.length/\∀ n x,l[n]?=some x->kQ l n x=true)↔∃ t:Tre,l=t.flat/\t.kind=1/\t.ok=true:=by
 constructor
 . rintro⟨h1,h2,h3⟩;have ca:l≠[]:=by intro e; subst e; simp at h0
   have wE:mQ l=l.length:=by
    cases l with
    | nil=>exact absurd rfl ca
    | cons y r=>simp at h0; subst h0; exact h2
   obtain⟨t,rfl⟩:=(IA l).1 (C8 ca wE h3);obtain⟨y,hy,hk,_⟩:=(gT.whole t).sn;rw[h0]at hy; cases hy;refine⟨t,rfl,by rw[<- hk,h1],?_⟩;have:=Lr (l:=t.flat) _ [t] 0 (bX _) ⟨[],by simp⟩ (λ j s x _ hj hs hx=>by rw[<- Ia hs hx]; exact h3 j x hx);simpa using this
 . rintro⟨t,rfl,hk,ho⟩;obtain⟨y,hy,hyk,hys,_⟩:=(gT.whole t).sn;rw[h0]at hy; cases hy;refine⟨by rw[hyk,hk],hys,λ n x hx=>?_⟩;obtain⟨⟨s,_,hs,_⟩,_⟩:=place t (dp.1 hx).1;rw[Ia hs hx];exact XQ (afx ho hs) hs hx
theorem uW {l:List Nd} (h9:¬ 900<l.length) (h:¬ ∃ t:Tre,l=t.flat/\t.kind=1/\t.ok=true):fR l=4:=by
 unfold fR;rw[if_neg h9];cases ht:D3 l with
 | none=>rfl
 | some t =>
   have:=Wi ht;subst this;show Dt t=4;unfold Dt;rw[if_pos]
   by_cases hk:t.kind=1
   . right;cases ho:t.ok with
     | false=>rfl
     | true=>exact absurd ⟨t,rfl,hk,ho⟩ h
   . exact .inl hk
theorem NF {c:UInt8} (h:dj c=true):lA c=true/\c.toNat≠32/\c.toNat≠10/\c.toNat≠126:=by
 simp only[dj,gK,mM,Jj,kJ,eg]at h;simp only[lA,eg];omega
theorem zk {s:aG} (h:kH s=true):ix s=.ok [⟨1,s,0⟩]:=by
 have hlen:=M9 h;unfold kH at h;rw[eg]at h;rcases ql h with ⟨_,_,_,⟨c,r,e,hc⟩,ck⟩|h'|h'|h'
 . have Xk:rD s=(0,0):=by
    unfold rD;rw[if_neg (by omega)];have:s.findIdx? (λ c=>!lA c)=none:=by
     rw[List.findIdx?_eq_none_iff];intro x hx;rw[fm]at ck;have:=NF (ck x hx);simp[this.1]
    rw[this]
   unfold ix;rw[Xk];simp only[ne_eq,not_true,if_false];obtain⟨n,hn⟩:∃ n,s.length=n+1:=⟨r.length,by rw[e]; simp⟩;rw[hn,eR];subst e;have aky:=NF (show dj c=true by rw[fm]at ck; exact ck c (by simp));simp only[eG];rw[if_neg (by omega),if_neg (by omega),h];simp only[ne_eq,not_true,if_false,k0,show ¬ ((0:Nat)=900) by omega,db,eH];have Hv:r.length=n:=by simpa using hn
   cases n with
   | zero=>simp only[eR]
   | succ n =>
     rw[eR,List.drop_of_length_le (by simp)]
 . omega
 . omega
 . omega
where
 M9 {s:aG} (h:kH s=true):s.length<=12:=by
  unfold kH at h;rw[eg]at h;rcases ql h with h|h|h|h
  . exact h.2.2.1
  . omega
  . omega
  . omega
theorem QJ (s:aG) (hs:s.length<=3000):Pure K 208 [.str s] (.bool (kH s)):=by
 intro U R hR;refine Vt ?_;unfold Vs;refine (ua s hs).go ?_;cases hl:ix s with
 | bad p e =>
   have hn:kH s=false:=by
    cases h:kH s with
    | false=>rfl
    | true=>rw[zk h]at hl; cases hl
   rw[hn]at hR;have he:e≠0:=by
    unfold ix at hl;split at hl;split at hl
    . rename_i he; cases hl; exact he
    . exact wI _ _ _ _ hl
   simp only[sT,bp,List.drop,bC,bA,al,he,eS,bo,show (false==true)=false from rfl,aP,cN,aQ,bZ,if_false];exact aq.mk hR
 | ok L =>
   simp only[sT,bp,List.drop,bC,bA,al,dG,bo,iY];have tb:=YP L;have hlen:cr (some false) (iB L)=.val (.int .i64 L.length):=tb.len;refine oV ?_;rw[hlen];refine oV ?_;rw[bA];refine oV ?_;simp only[aQ,if_true,al]
   by_cases h1:L.length=1
   . match L,h1 with
     | [t],_ =>
       have p7:kB t:=(vn hl).1 t (by simp);have tok:∀ (o:Nat) (c:AV) (kq:AV->Prop),(jM t)[o]?=some c->kq c->ao K (.bool true) (aE (some (51,3)) none (iB [t]) (.int .i64 0)) λ a=>ao K (.bool true) (af (some o) a) λ b=>ao K (.bool true) (ak (some (false,1)) b U) kq:=λ o c kq hc hk=>by
        obtain⟨r',Ac⟩:=J1 hc [];refine tI ⟨by simp,?_⟩;refine tI ?_;simp only[Int.toNat_zero,Nat.zero_mul,eG,dC,aJ];refine tI ?_;rw[qf,show gO [t]=jM t++[] from rfl,Ac,jE]; exact hk
       simp only[eX,k0,db,show ((1:Nat):Int)=1 from rfl,dG,bo,iY];refine oV (tok 0 (.int .u8 t.k) _ rfl ?_);rw[bA];refine oV ?_;simp only[aQ,if_true,al]
       by_cases hk:(t.k:Int)=1
       . simp only[hk,dG,bo,iY];refine oV (tok 1 (.str t.s) _ rfl (oV ?_));rw[gZ];refine oV ?_;simp only[aQ,if_true,al];refine aq.eq hR ?_;rw[AV.bool.injEq,qO,eg];constructor
         . intro h;have:=p7.2;rw[show t.k=1 by omega]at this;rw[<- h]; unfold kH; rw[this]; simp
         . intro h;rw[zk h]at hl;cases hl; rfl
       . simp only[hk,eS,bo,show (false==true)=false from rfl,aP,cN,aQ,bZ,if_false,al];refine aq.eq hR ?_;cases h:kH s with
         | false=>rfl
         | true=>rw[zk h]at hl; cases hl; exact absurd rfl hk
   . have vD:¬ (L.length:Int)=1:=by omega
     simp only[vD,eS,bo,show (false==true)=false from rfl,aP,cN,aQ,bZ,if_false,al];refine aq.eq hR ?_;cases h:kH s with
     | false=>rfl
     | true=>rw[zk h]at hl; cases hl; exact absurd rfl h1
where
 YP (l:List Tk):eW (iB l) l.length (gO l):=by
  unfold iB;split
  . rename_i h; subst h; exact .inl ⟨rfl,rfl,rfl⟩
  . exact .inr ⟨_,rfl⟩
 wI:∀ (f:Nat) (s:aG) (p:Nat) (l:List Tk) {q:Nat} {e:Int},eR f s p l=.bad q e->e≠0
  | 0,s,p,l,q,e,h=>by simp[eR]at h
  | f+1,s,p,l,q,e,h=>by
    simp only[eR]at h;split at h
    . cases h
    . split at h
      . exact wI f s _ l h
      . split at h
        . exact wI f s _ l h
        . split at h
          . rename_i he; cases h; exact he
          . split at h
            . cases h; omega
            . exact wI f s _ _ h
end Go.Rip
