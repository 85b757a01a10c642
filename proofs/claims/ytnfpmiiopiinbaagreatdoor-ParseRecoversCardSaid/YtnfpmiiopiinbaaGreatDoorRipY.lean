/- Lemmas for the proof: no conditions. -/
import Derived.Test.YtnfpmiiopiinbaaGreatDoorRipZz
import Derived.Test.YtnfpmiiopiinbaaGreatDoorRipS
import Derived.Test.YtnfpmiiopiinbaaGreatDoorRipH
import Derived.Test.YtnfpmiiopiinbaaGreatDoorRipG
import Derived.Test.YtnfpmiiopiinbaaGreatDoorRipP
set_option linter.unusedVariables false
set_option linter.unusedSimpArgs false
set_option linter.loopingSimpArgs false
namespace Go.Rip
open Go.Proofs Go.RowKit
theorem JK (k:Int):Pure K 179 [.int .u8 k] (.bool (om k)):=by
 intro U R hR;refine NA ?_;unfold Nz;rw[iN,ak];refine Q3 (λ _=>lB ..) (aq.eq hR ?_);simp only[om,AV.bool.injEq]; grind
theorem Az (k:Int):Pure K 206 [.int .u8 k] (.bool (pe k)):=by
 intro U R hR;refine NH ?_;unfold NG;rw[bw,ak];refine IT (λ _=>bw ..) (aq.eq hR ?_);simp only[pe,AV.bool.injEq]; grind
theorem JN (k:Int):Pure K 181 [.int .u8 k] (.bool (tI k)):=by
 intro U R hR;refine NC ?_;unfold NB;refine (Az k).go ?_;refine IT (λ _=>bw ..) (aq.eq hR ?_);simp only[pe,tI,AV.bool.injEq]; grind
theorem AB (k:Int):Pure K 185 [.int .u8 k] (.bool (gu k)):=by
 intro U R hR;refine NF ?_;unfold ND;rw[iN,ak];refine Q3 (λ _=>lB ..) (aq.eq hR ?_);simp only[gu,AV.bool.injEq]; grind
theorem L7 (k:Int):Pure K 207 [.int .u8 k] (.bool (pW k)):=by
 intro U R hR;refine NJ ?_;unfold NI;refine (AB k).go ?_;refine IT (λ _=>bw ..) ?_;refine IT (λ _=>bw ..) (aq.eq hR ?_);simp only[gu,pW,AV.bool.injEq]; grind
theorem JL (k c:Int):Pure K 242 [.int .u8 k,.ca [.int .u8 c]] (.bool (decide (k=c))):=by
 intro U R hR;refine NZ ?_;unfold NY;rw[rQ,bl];exact J8 (aq.mk hR)
theorem nJ (a b n:Int):Pure K 122 [.int .i64 a,.int .i64 b,.int .i64 n] (.bool (decide (a<=n/\n<=b))):=by
 intro U R hR;refine MK ?_;unfold MJ;refine XP ?_
 by_cases h:a<=n
 . simp only[h,dq,bj,ib];refine kT (kT ?_);rw[lB];refine kT ?_;simp only[aO,if_true,ak];refine aq.eq hR ?_;simp[h]
 . simp only[h,dz,bj,show (false==true)=false from rfl,aP,cz,aO,bQ,if_false,ak];refine aq.eq hR ?_;simp[h]
def vY:mS->AV
 | .item=>.func (.func 179) [] []
 | .type=>.func (.func 181) [] []
 | .base=>.func (.func 206) [] []
 | .term=>.func (.func 185) [] []
 | .arg=>.func (.func 207) [] []
 | .kind c=>.func (.func 242) [] [.ca [.int .u8 c]]
theorem U6 {c:mS} {k:Int} {U:St} {K':AV->St->Prop} {Kp:AV->St->Prop} (h:K' (.bool (c.is k)) U):(gi K.P (vY c) [.int .u8 k]).wp K U K' Kp:=by
 cases c with
 | item=>simp only[vY,gi,show dG K.P 179=true by kernel_rfl,if_true,jr,iK,jn]; exact (JK k).go h
 | type=>simp only[vY,gi,show dG K.P 181=true by kernel_rfl,if_true,jr,iK,jn]; exact (JN k).go h
 | base=>simp only[vY,gi,show dG K.P 206=true by kernel_rfl,if_true,jr,iK,jn]; exact (Az k).go h
 | term=>simp only[vY,gi,show dG K.P 185=true by kernel_rfl,if_true,jr,iK,jn]; exact (AB k).go h
 | arg=>simp only[vY,gi,show dG K.P 207=true by kernel_rfl,if_true,jr,iK,jn]; exact (L7 k).go h
 | kind c=>simp only[vY,gi,show dG K.P 242=true by kernel_rfl,if_true,jr,iK,gY]; exact (JL k c).go h
def kF (s:lj):List AV:=[vY s.c,.int .i64 (s.least:Nat),.int .i64 (s.nT:Nat)]
def lX (l:List lj):List AV:=l.flatMap kF
def jJ (l:List lj):AV:=if l=[] then .ag else .vec l.length .full (lX l)
def lI (f:DK):List AV:=[.bool f.text,.bool f.n,.bool f.m,jJ f.kids]
theorem FN (L:List lj):(lX L).length=3*L.length:=by
 induction L with
 | nil=>rfl
 | cons t L ih =>
   have:(lX (t::L)).length=3+(lX L).length:=by simp[lX,kF]; omega
   rw[this,ih,lM]; omega
theorem AK (L:List lj) (i:Nat):(lX L).drop (i*3)=lX (L.drop i):=by
 induction L generalizing i with
 | nil=>simp[lX]
 | cons t L ih =>
   cases i with
   | zero=>simp
   | succ i =>
     rw[Nat.add_mul,show i*3+1*3=3+i*3 by omega,<- List.drop_drop,List.drop_succ_cons,<- ih];rfl
theorem Qo {L:List lj} {i:Nat} {t:lj} (h:L[i]?=some t):∃ r,(lX L).drop (i*3)=kF t++r:=by
 rw[AK,iq (dp.1 h).1];refine⟨lX (L.drop (i+1)),?_⟩;have:=(dp.1 h).2;simp[lX,this]
theorem Qp (l:List lj):gx (jJ l) l.length (lX l):=by
 unfold jJ;split
 . rename_i h; subst h; exact .inl ⟨rfl,rfl,rfl⟩
 . exact .inr ⟨_,rfl⟩
theorem SE {v:AV} {ss:List lj} {s:lj} {i:Nat} {U:St} {K':AV->St->Prop} {Kp:AV->St->Prop} (hv:gx v ss.length (lX ss)) (hs:ss[i]?=some s) (hk:K' (.agg (kF s)) U) :
 (aJ (some (200,3)) none v (.int .i64 (i:Nat))).wp K U (λ p U=>(ar (some (true,3)) p U).wp K U K' Kp) Kp:=by
 have aL:=(dp.1 hs).1;obtain⟨c,rfl,oe⟩:=hv.at (sz:=3) (e:=200) aL;obtain⟨r,hr⟩:=Qo hs;rw[oe,hr];refine⟨by omega,?_⟩;rw[ak,tZ];refine⟨by simp[kF],?_⟩;have:(kF s++r).take 3=kF s:=by simp[kF]
 rw[this]; exact hk
theorem CI {k:Int} {z:AV}:∀ (ks:List Int) (vs:List AV),(∀ j∈ks,j≠k)->kX .i (.int .u8 k) z true (ks.map (.int .u8)) vs=.val (.aQ [z,.bool false])
 | [],vs,_=>by cases vs<;>rfl
 | j::ks,[],_=>rfl
 | j::ks,v::vs,h=>by
   have hj:¬ k=j:=λ e=>h j (by simp) e.symm;have:fE .i (.int .u8 k) (.int .u8 j)=some false:=by simp[fE,hj]
   simp only[dY,kX,this,bQ,if_false];exact CI ks vs λ x hx=>h x (by simp[hx])
def Ge:AV:=.agg [AV.bool false,AV.bool false,AV.bool false,AV.ag]
def LY (n:Nat):Bool:=match nB with
 | .eD ks vs=>(match kX .i (.int .u8 n) Ge true ks vs with
   | .val v=>gG v (match eI n with|some f=>.aQ [.agg (lI f),.bool true]|none=>.aQ [Ge,.bool false])
   | _=>false)
 | _=>false
theorem JI:∀ n:Fin 38,LY n.val=true:=by decide +kernel
end Go.Rip
namespace Go.Rip
open Go.Proofs Go.RowKit
theorem GB (ks:List Int):(lK ks).length=ks.length:=by simp[lK]
theorem YE {U:St} {v:AV} {ks:List Int} {i e:Nat} {k:Int} {kq:AV->AV->Prop} (hv:gx v ks.length (lK ks)) (hk:ks[i]?=some k) (h:∀ L,kq (.ca L) (.int .u8 k)) :
 af K (.bool true) (aJ (some (e,1)) none v (.int .i64 (i:Nat))) λ p=>af K (.bool true) (ar (some (false,1)) p U) (kq p):=by
 have aL:=(dp.1 hk).1;obtain⟨c,rfl,oe⟩:=hv.at (sz:=1) (e:=e) aL;obtain⟨r,hr⟩:=S6 hk;rw[oe,Nat.mul_one,hr];exact pq ⟨by omega,pq (h _)⟩
theorem Wx {v:AV} {ks:List Int} {i:Nat} {e:Nat} {U:St} {K':AV->St->Prop} {Kp:AV->St->Prop} (hv:gx v ks.length (lK ks)) (hi:i<=ks.length) (hk:∀ v',gx v' (ks.drop i).length (lK (ks.drop i))->K' v' U) :
 (gp false (some (e,1)) v (some (.int .i64 (i:Nat))) none).wp K U K' Kp:=by
 rcases hv with ⟨h0,h1,rfl⟩|⟨c,rfl⟩
 . have kM:ks=[]:=oQ.1 h0;subst kM;have Eo:i=0:=by simpa using hi
   subst Eo;simp only[gp,dh,wp_cond,ak];refine⟨by simp,hk _ (.inl ⟨rfl,rfl,rfl⟩)⟩
 . rw[CZ,l8,kQ];refine⟨by omega,?_⟩;refine hk _ (.inr ⟨uk c none,?_⟩);have:ks.length-i=(ks.drop i).length:=by rw[List.length_drop]
   simp only[iJ,Nat.mul_one,this];rw[zl (by rw[GB]; exact cN _)];congr 1;simp[lK,List.map_drop]
theorem TA {ss:List lj} {i:Nat} {U:St} {K':AV->St->Prop} {Kp:AV->St->Prop} (hi:i<ss.length) (hk:∀ v',gx v' (ss.drop (i+1)).length (lX (ss.drop (i+1)))->K' v' U) :
 (gp false (some (200,3)) (jJ ss) (some (.int .i64 ((i:Nat)+1))) none).wp K U K' Kp:=by
 have cv:ss≠[]:=by intro e; subst e; simp at hi
 unfold jJ;rw[if_neg cv,CZ,l8,kQ];refine⟨by omega,?_⟩;refine hk _ (.inr ⟨uk .full none,?_⟩);have:(ss.length:Int).toNat-((i:Int)+1).toNat=(ss.drop (i+1)).length:=by rw[List.length_drop]; omega
 rw[this];congr 1;rw[iJ,zl (by rw[FN]; omega),show ((i:Int)+1).toNat=i+1 by omega,AK]
def sn (ks:List Int) (s:lj) (rest:Nat):Nat:=((ks.take (min (ks.length-rest) s.nT)).takeWhile s.c.is).length
theorem KJ (ks:List Int) (s:lj) (ss:List lj):gS ks (s::ss)=if sn ks s (ss.map (·.least)).sum<s.least then false else gS (ks.drop (sn ks s (ss.map (·.least)).sum)) ss:=by
 rw[gS]; rfl
theorem BV {p:Int->Bool}:∀ {l:List Int} {i:Nat},(∀ j (h:j<l.length),j<i->p l[j]=true)->i<=l.length->(i=l.length\/∃ h:i<l.length,p l[i]=false)->(l.takeWhile p).length=i
 | [],i,_,hi,_=>by simp at hi; simp[hi]
 | a::l,0,_,_,he=>by
   rcases he with he|⟨h,he⟩
   . simp at he
   . rw[mj]; simp at he; simp[he]
 | a::l,i+1,b0,hi,he=>by
   have ha:p a=true:=b0 0 (by simp) (by omega);rw[mj,if_pos ha,lM];congr 1;refine BV (λ j h hj=>?_) (by simpa using hi) ?_
   . have:=b0 (j+1) (by simp; omega) (by omega);simpa using this
   . rcases he with he|⟨h,he⟩
     . left; simpa using he
     . right; exact⟨by simpa using h,by simpa using he⟩
theorem Vc {U:St} {R:cM->St->Prop} {v:AV} {ks:List Int} {ss:List lj} (hv:gx v ks.length (lK ks)) (hl:ks.length<=100000) (rk:ss.length<=100) (mW:∀ s∈ss,s.least<=1000/\s.nT<=1000)
 (h:∀ ad,cG U ad->R (.ret (.bool (gS ks ss))) ad):ae K 209 [v,jJ ss] U R:=by
 refine NN ?_;unfold NM;have Z8:=Qp ss;have hlen:bR (some false) (jJ ss)=.val (.int .i64 ss.length):=Z8.len;rw[hlen,ak];refine⟨λ m v0 v1 v11 v12 cF ad=>∃ (i:Nat) (ks':List Int),m=ss.length-i/\v1=jJ ss/\v11=jJ ss/\v12=.int .i64 ss.length/\cF=.int .i64 (i:Nat)/\i<=ss.length/\gx v0 ks'.length (lK ks')/\ks'.length<=ks.length/\gS ks' (ss.drop i)=gS ks ss/\cG U ad,
  ⟨_,0,ks,rfl,rfl,rfl,rfl,rfl,by omega,hv,cN _,rfl,cG.refl _⟩,?_⟩
 rintro m v0 v1 v11 v12 cF bF ⟨i,ks',rfl,rfl,rfl,rfl,rfl,hi,RC,Es,ng,e1⟩;refine F8 (λ aL=>?_) λ jW=>?_
 . have aL:i<ss.length:=by omega
   obtain⟨s,hs⟩:∃ s,ss[i]?=some s:=⟨ss[i],by simp[aL]⟩;have HB:=mW s (gA hs);have YN:ss.drop i=s::ss.drop (i+1):=by
    rw[iq aL];have:=(dp.1 hs).2;rw[this]
   refine SE Z8 hs ?_;rw[cK];intro b6 o6;have m6:(bF.new b6 (.box [AV.c6,AV.int .i64 0,AV.int .i64 0])).box b6=some [AV.c6,AV.int .i64 0,AV.int .i64 0]:=aI;have e2:=e1.new o6 (x:=.box [AV.c6,AV.int .i64 0,AV.int .i64 0]);have f6:=e1.fresh o6.1;generalize bF.new b6 (.box [AV.c6,AV.int .i64 0,AV.int .i64 0])=bI at *;rw[cL m6];refine⟨⟨rfl,rfl,by simp⟩,?_⟩;have g6:(bI.set b6 (.box (ax [AV.c6,AV.int .i64 0,AV.int .i64 0] 0 (au (.agg (kF s)))))).box b6=some (kF s):=by rw[aX]; rfl
   have e3:=e2.set f6 (x:=.box (ax [AV.c6,AV.int .i64 0,AV.int .i64 0] 0 (au (.agg (kF s)))));generalize bI.set b6 (.box (ax [AV.c6,AV.int .i64 0,AV.int .i64 0] 0 (au (.agg (kF s)))))=cj at *;rw[dm];refine⟨bD (by omega) (by omega),?_⟩;refine TA aL λ v21 Zy=>?_;have VU:bR (some false) v21=.val (.int .i64 (ss.drop (i+1)).length):=Zy.len;rw[VU,ak];generalize Jc:ss.drop (i+1)=rest at *;have hrl:rest.length<=100:=by rw[<- Jc,List.length_drop]; omega
   have Z5:∀ s∈rest,s.least<=1000:=λ s hs=>(mW s (by rw[<- Jc]at hs; exact List.mem_of_mem_drop hs)).1;have Ps:∀ n,((rest.take n).map (·.least)).sum<=1000*n:=by
    have:∀ (l:List lj) (n:Nat),(∀ s∈l,s.least<=1000)->((l.take n).map (·.least)).sum<=1000*n:=by
     intro l
     induction l with
     | nil=>intro n _; simp
     | cons a l ih =>
       intro n hm;cases n with
       | zero=>simp
       | succ n =>
         have:=ih n λ s hs=>hm s (by simp[hs]);have:=hm a (by simp);simp only[List.take_succ_cons,dY,List.sum_cons]; omega
    exact λ n=>this rest n Z5
   refine⟨λ m w0 w1 w6 w7 Oo Oq Ot w21 Ov C6 ad=>∃ j:Nat,m=rest.length-j/\w0=v0/\w1=jJ ss/\w6=.box b6 0/\w7=.int .i64 (((rest.take j).map (·.least)).sum:Nat)/\Oo=jJ ss/\Oq=.int .i64 ss.length/\Ot=.int .i64 (i:Nat)/\w21=v21/\Ov=.int .i64 rest.length/\C6=.int .i64 (j:Nat)/\j<=rest.length/\ad.box b6=some (kF s)/\cG U ad,
    ⟨_,0,rfl,rfl,rfl,rfl,rfl,rfl,rfl,rfl,rfl,rfl,rfl,by omega,g6,e3⟩,?_⟩
   clear e2 e3 g6 m6 o6;rintro m w0 w1 w6 w7 Oo Oq Ot w21 Ov C6 cm ⟨j,rfl,rfl,rfl,rfl,rfl,rfl,rfl,rfl,rfl,rfl,rfl,hj,g6,e4⟩;refine F8 (λ Ew=>?_) λ adp=>?_
   . have Ew:j<rest.length:=by omega
     obtain⟨s2,yB⟩:∃ s2,rest[j]?=some s2:=⟨rest[j],by simp[Ew]⟩;refine SE Zy yB ?_;rw[cK];intro b9 yu;have m9:(cm.new b9 (.box [AV.c6,AV.int .i64 0,AV.int .i64 0])).box b9=some [AV.c6,AV.int .i64 0,AV.int .i64 0]:=aI;have e5:=e4.new yu (x:=.box [AV.c6,AV.int .i64 0,AV.int .i64 0]);have f9:=e4.fresh yu.1;have n9:=yu.bP g6;have Zv:=(bC yu (x:=.box [AV.c6,AV.int .i64 0,AV.int .i64 0])).bf g6;generalize cm.new b9 (.box [AV.c6,AV.int .i64 0,AV.int .i64 0])=cY at *;rw[cL m9];refine⟨⟨rfl,rfl,by simp⟩,?_⟩;have g9:(cY.set b9 (.box (ax [AV.c6,AV.int .i64 0,AV.int .i64 0] 0 (au (.agg (kF s2)))))).box b9=some (kF s2):=by rw[aX]; rfl
     have aau:(cY.set b9 (.box (ax [AV.c6,AV.int .i64 0,AV.int .i64 0] 0 (au (.agg (kF s2)))))).box b6=some (kF s):=by rw[aM n9]; exact Zv
     have e6:=e5.set f9 (x:=.box (ax [AV.c6,AV.int .i64 0,AV.int .i64 0] 0 (au (.agg (kF s2)))));generalize cY.set b9 (.box (ax [AV.c6,AV.int .i64 0,AV.int .i64 0] 0 (au (.agg (kF s2)))))=kP at *;simp only[aN,ak,cq];refine gq g9 rfl ?_;have hb1:=Ps j;have hb2:=Z5 s2 (gA yB);rw[dm];refine⟨bD (by omega) (by omega),?_⟩;rw[dm];refine⟨bD (by omega) (by omega),rest.length-(j+1),by omega,j+1,rfl,rfl,rfl,rfl,?_,rfl,rfl,rfl,rfl,rfl,by simp,Ew,aau,e6⟩;have:rest.take (j+1)=rest.take j++[s2]:=by rw[zm,yB]; rfl
     rw[this]; simp
   . have hj:j=rest.length:=by omega
     subst hj;rw[xg];have hb1:=Ps rest.length;rw[xg]at hb1;generalize aaR:(rest.map (·.least)).sum=sm at *;have YM:gS ks' (s::rest)=if sn ks' s sm<s.least then false else gS (ks'.drop (sn ks' s sm)) rest:=by rw[KJ,aaR]
     rw[YN,YM]at ng;refine⟨λ m u0 w1 w6 w7 xy Oo Oq Ot ad=>∃ q:Nat,m=ks'.length-q/\u0=w0/\w1=jJ ss/\w6=.box b6 0/\w7=.int .i64 (sm:Nat)/\xy=.int .i64 (q:Nat)/\Oo=jJ ss/\Oq=.int .i64 ss.length/\Ot=.int .i64 (i:Nat)/\q<=min (ks'.length-sm) s.nT/\(∀ (p:Nat) (hp:p<ks'.length),p<q->s.c.is ks'[p]=true)/\ad.box b6=some (kF s)/\cG U ad,
      ⟨_,0,rfl,rfl,rfl,rfl,rfl,rfl,rfl,rfl,rfl,by omega,λ p hp h=>by omega,g6,e4⟩,?_⟩
     clear g6 e4;rintro m u0 w1 w6 w7 xy Oo Oq Ot cY ⟨q,rfl,rfl,rfl,rfl,rfl,rfl,rfl,rfl,rfl,hq,b0,g6,e5⟩;intro jj yz;have Ja:bR (some false) u0=.val (.int .i64 ks'.length):=RC.len;have stop:sn ks' s sm=q->jj u0 (jJ ss) (.box b6 0) (.int .i64 (sm:Nat)) (.int .i64 (q:Nat)) (jJ ss) (.int .i64 ss.length) (.int .i64 (i:Nat)) (.bool false) cY:=λ hmq=>by
      refine yz _ _ _ _ _ _ _ _ _ _ ?_;refine eV ?_;simp only[aN,ak,cq];refine gq g6 rfl ?_;rw[hmq]at ng;refine F8 (λ VY=>?_) λ VY=>?_
      . rw[if_pos (by omega)]at ng;refine aq.mk ?_;rw[ng]; exact h _ e5
      . rw[if_neg (by omega)]at ng;refine Wx RC (by omega) λ qd h61=>?_;rw[dm];refine⟨bD (by omega) (by omega),ss.length-(i+1),by omega,i+1,ks'.drop q,rfl,rfl,rfl,rfl,by simp,aL,h61,by simp; omega,?_,e5⟩;rw[Jc]; exact ng
     have go:q<min (ks'.length-sm) s.nT->(∀ k,ks'[q]?=some k->s.c.is k=true)->jj u0 (jJ ss) (.box b6 0) (.int .i64 (sm:Nat)) (.int .i64 (q:Nat)) (jJ ss) (.int .i64 ss.length) (.int .i64 (i:Nat)) (.bool true) cY:=λ Hy hqs=>by
      refine yz _ _ _ _ _ _ _ _ _ _ ?_;refine ez ?_;rw[dm];refine⟨bD (by omega) (by omega),ks'.length-(q+1),by omega,q+1,rfl,rfl,rfl,rfl,rfl,by simp,rfl,rfl,rfl,by omega,λ p hp Rv=>?_,g6,e5⟩;rcases gI p q with aL|jW
      . exact b0 p hp aL
      . have:p=q:=by omega
        subst this; exact hqs _ (by simp[hp])
     have nT:q=min (ks'.length-sm) s.nT->sn ks' s sm=q:=λ hqe=>by
      unfold sn;rw[<- hqe];refine BV (λ p hp Rv=>?_) (by simp; omega) (.inl (by simp; omega));have:=b0 p (by simp at hp; omega) Rv;simpa using this
     simp only[Ja,aD,jP,fx,gP];refine⟨bD (by omega) (by omega),?_⟩;rw[bX,aD]
     by_cases h1:(q:Int)<(ks'.length:Int)-(sm:Nat)
     . simp only[h1,dq,bj,ib];refine kT (Vi (Vj g6 rfl ?_));rw[bX];refine kT ?_;simp only[aO,if_true,aD]
       by_cases h2:(q:Int)<(s.nT:Nat)
       . have hqk:q<ks'.length:=by omega
         have hx:ks'[q]?=some ks'[q]:=by simp[hqk]
         simp only[h2,dq,bj,ib];refine Vi (Vj g6 rfl (kT (kT (YE RC hx λ L=>?_))));refine ez ?_;refine U6 ⟨λ b hb=>rfl,?_⟩;simp only[aO,if_true,aD];cases hc:s.c.is ks'[q] with
         | true=>exact go (by omega) λ k hk=>by rw[hx]at hk; cases hk; exact hc
         | false =>
           refine stop ?_;unfold sn;refine BV (λ p hp Rv=>?_) (by simp; omega) (.inr ⟨by simp; omega,by simpa using hc⟩);have:=b0 p (by simp at hp; omega) Rv;simpa using this
       . simp only[h2,dz,bj,show (false==true)=false from rfl,aP,cz,aO,bQ,if_false,aD];exact eV (stop (nT (by omega)))
     . simp only[h1,dz,bj,show (false==true)=false from rfl,aP,cz,aO,bQ,if_false,aD];exact eV (stop (nT (by omega)))
 . have hi:i=ss.length:=by omega
   subst hi;rw[List.drop_length]at ng;have Ja:bR (some false) v0=.val (.int .i64 ks'.length):=RC.len;rw[Ja,ak];refine J8 (aq.eq (h _ e1) ?_);rw[<- ng,gS,AV.bool.injEq,oP,List.isEmpty_iff,dJ];constructor
   . intro h; exact oQ.1 (by omega)
   . rintro rfl; rfl
end Go.Rip
namespace Go.Rip
open Go.Proofs Go.RowKit
def EV (l:List Nd) (en:Int):Nat->Nat->Nat
 | 0,p=>p
 | f+1,p=>match l[p]? with
   | some x=>if (p:Int)<en/\0<x.size then EV l en f (p+x.size.toNat) else p
   | none=>p
def behind (l:List Nd) (p:Nat) (ks:List Nat):Nat:=ks.foldl (λ _ k=>k+eN l k) p
theorem yk (l:List Nd) (p:Nat) (ks:List Nat) (k:Nat):behind l p (ks++[k])=k+eN l k:=by simp[behind]
theorem CC (l:List Nd) (en:Int):∀ (f p:Nat),behind l p (eZ l en f p)=EV l en f p
 | 0,p=>rfl
 | f+1,p=>by
   simp only[eZ,EV];cases hx:l[p]? with
   | none=>rfl
   | some x =>
     simp only
     by_cases h:(p:Int)<en/\0<x.size
     . rw[if_pos h,if_pos h,<- CC l en f];have:eN l p=x.size.toNat:=by unfold eN; rw[hx]; rfl
       simp only[behind,List.foldl_cons,this]
     . rw[if_neg h,if_neg h]; rfl
theorem CD {l:List Nd} (hs:zH l) {en:Nat} (Q9:en<=l.length):∀ (f p:Nat),EV l en f p=pN l en f p
 | 0,p=>rfl
 | f+1,p=>by
   simp only[EV]
   by_cases hp:p<en
   . have aL:p<l.length:=by omega
     have hx:l[p]?=some l[p]:=by simp[aL]
     have:=hs.2.2 p _ hx;rw[vg hx hp,hx];simp only;rw[if_pos ⟨by omega,by omega⟩];exact CD hs Q9 f _
   . rw[vi hp];split
     . rw[if_neg (λ h=>hp (by omega))]
     . rfl
def fS (l:List Nd) (ks:List Nat):List Int:=ks.map λ k=>((l[k]?.map Nd.kind).getD 0)
def gN (l:List Nd) (n:Nat) (x:Nd):Bool:=match eI x.kind with
 | none=>false
 | some f=>decide (1<=x.size/\x.size<=(l.length:Int)-n)&&(dv x f&&((eZ l ((n:Int)+x.size) l.length (n+1)).all (λ k=>decide (1<=eN l k/\(k:Int)+eN l k<=n+x.size)) &&
    (decide (((behind l (n+1) (eZ l ((n:Int)+x.size) l.length (n+1)):Nat):Int)=n+x.size)&&gS (fS l (eZ l ((n:Int)+x.size) l.length (n+1))) f.kids)))
theorem CK {l:List Nd} {n:Nat} {s:Tre} {x:Nd} (hs:fo l n s) (hx:l[n]?=some x):gN l n x=uO x (s.kids.map Tre.kind):=by
 obtain⟨y,hy,_,hsz,_⟩:=hs.pP;rw[hx]at hy; cases hy;have hle:=hs.le;have qk:=s.dU;have hk:eZ l ((n:Int)+x.size) l.length (n+1)=cr (n+1) s.kids:=by rw[hsz]; exact y9 hs
 have En:=nP s;have fz:∀ (ts:List Tre) (p:Nat),oz l p ts->(cr p ts).all (λ k=>decide (1<=eN l k/\(k:Int)+eN l k<=(p:Int)+(Tre.br ts).length))=true/\behind l p (cr p ts)=p+(Tre.br ts).length/\fS l (cr p ts)=ts.map Tre.kind:=by
  intro ts
  induction ts with
  | nil=>intro p _; simp[cr,behind,fS]
  | cons t ts ih =>
    intro p Bv;obtain⟨z,hz,Li,tC,_⟩:=Bv.head.pP;have htp:=t.dU;have HA:eN l p=t.flat.length:=by unfold eN; rw[hz]; simp; omega
    obtain⟨i1,i2,i3⟩:=ih _ Bv.tail;refine⟨?_,?_,?_⟩
    . simp only[cr,List.all_cons,bV,dJ,HA,Tre.cW,eG];refine⟨⟨by omega,by omega⟩,?_⟩;rw[eH]at i1 ⊢;intro k hk;have:=i1 k hk;simp only[dJ]at this ⊢;omega
    . simp only[cr,behind,List.foldl_cons,HA];have:behind l (p+t.flat.length) (cr (p+t.flat.length) ts)=p+(Tre.br (t::ts)).length:=by rw[i2]; simp; omega
      exact this
    . simp only[cr,fS,dY,hz,Option.map_some,Option.getD_some,Li];congr 1
 obtain⟨h1,h2,h3⟩:=fz s.kids (n+1) hs.kids;unfold gN uO O5;cases hf:eI x.kind with
 | none=>simp
 | some f =>
   simp only;rw[hk,Cb hf,h2,h3];have e1:decide (1<=x.size/\x.size<=(l.length:Int)-n)=true:=by rw[dJ]; omega
   have e2:(cr (n+1) s.kids).all (λ k=>decide (1<=eN l k/\(k:Int)+eN l k<=n+x.size))=true:=by
    rw[eH]at h1 ⊢;intro k hk;have:=h1 k hk;simp only[dJ]at this ⊢;omega
   have e3:decide (((n+1+(Tre.br s.kids).length:Nat):Int)=n+x.size)=true:=by rw[dJ]; omega
   rw[e1,e2,e3]; simp
theorem yI {l:List Nd} (cv:l≠[]) (h0:ju l=l.length) (h:∀ n x,l[n]?=some x->gN l n x=true):Dg l:=by
 have wx:zH l:=by
  refine⟨cv,h0,λ i x hx=>?_⟩;have:=h i x hx;unfold gN at this;split at this
  . cases this
  . simp only[bV,dJ]at this;exact this.1
 refine⟨wx,λ i x hx=>?_⟩;have hq:=h i x hx;have Wg:=wx.2.2 i x hx;unfold gN at hq;split at hq
 . cases hq
 . simp only[bV,dJ]at hq;have hb:=hq.2.2.2.1;rw[CC]at hb;have e:((i:Int)+x.size)=((i+x.size.toNat:Nat):Int):=by omega
   rw[e]at hb;rw[<- CD wx (by omega)]
   exact_mod_cast hb
theorem CT {l:List Nd} {x0:Nd} (h0:l[0]?=some x0):(x0.kind=1/\x0.size=l.length/\∀ n x,l[n]?=some x->gN l n x=true)↔∃ t:Tre,l=t.flat/\t.kind=1/\t.ok=true:=by
 constructor
 . rintro⟨h1,h2,h3⟩;have cv:l≠[]:=by intro e; subst e; simp at h0
   have rj:ju l=l.length:=by
    cases l with
    | nil=>exact absurd rfl cv
    | cons y r=>simp at h0; subst h0; exact h2
   obtain⟨t,rfl⟩:=(CY l).1 (yI cv rj h3);obtain⟨y,hy,hk,_⟩:=(fo.whole t).pP;rw[h0]at hy; cases hy;refine⟨t,rfl,by rw[<- hk,h1],?_⟩;have:=Fk (l:=t.flat) _ [t] 0 (cN _) ⟨[],by simp⟩ (λ j s x _ hj hs hx=>by rw[<- CK hs hx]; exact h3 j x hx);simpa using this
 . rintro⟨t,rfl,hk,ho⟩;obtain⟨y,hy,Wq,hys,_⟩:=(fo.whole t).pP;rw[h0]at hy; cases hy;refine⟨by rw[Wq,hk],hys,λ n x hx=>?_⟩;obtain⟨⟨s,_,hs,_⟩,_⟩:=place t (dp.1 hx).1;rw[CK hs hx];exact PJ (Xn ho hs) hs hx
theorem um {l:List Nd} (h9:¬ 900<l.length) (h:¬ ∃ t:Tre,l=t.flat/\t.kind=1/\t.ok=true):fC l=4:=by
 unfold fC;rw[if_neg h9];cases ht:BU l with
 | none=>rfl
 | some t =>
   have:=Oj ht;subst this;show yY t=4;unfold yY;rw[if_pos]
   by_cases hk:t.kind=1
   . right;cases ho:t.ok with
     | false=>rfl
     | true=>exact absurd ⟨t,rfl,hk,ho⟩ h
   . exact .inl hk
theorem G5 {c:UInt8} (h:eh c=true):oG c=true/\c.toNat≠32/\c.toNat≠10/\c.toNat≠126:=by
 simp only[eh,gD,oH,Jm,gX,dJ]at h;simp only[oG,dJ];omega
theorem uN {s:aT} (h:jk s=true):eA s=.ok [⟨1,s,0⟩]:=by
 have hlen:=GI h;unfold jk at h;rw[dJ]at h;rcases sB h with ⟨_,_,_,⟨c,r,e,hc⟩,b0⟩|h'|h'|h'
 . have Ph:qS s=(0,0):=by
    unfold qS;rw[if_neg (by omega)];have:s.findIdx? (λ c=>!oG c)=none:=by
     rw[List.findIdx?_eq_none_iff];intro x hx;rw[eH]at b0;have:=G5 (b0 x hx);simp[this.1]
    rw[this]
   unfold eA;rw[Ph];simp only[ne_eq,not_true,if_false];obtain⟨n,hn⟩:∃ n,s.length=n+1:=⟨r.length,by rw[e]; simp⟩;rw[hn,dE];subst e;have adn:=G5 (show eh c=true by rw[eH]at b0; exact b0 c (by simp));simp only[dN];rw[if_neg (by omega),if_neg (by omega),h];simp only[ne_eq,not_true,if_false,sU,show ¬ ((0:Nat)=900) by omega,cq,iK];have Ez:r.length=n:=by simpa using hn
   cases n with
   | zero=>simp only[dE]
   | succ n =>
     rw[dE,List.drop_of_length_le (by simp)]
 . omega
 . omega
 . omega
where
 GI {s:aT} (h:jk s=true):s.length<=12:=by
  unfold jk at h;rw[dJ]at h;rcases sB h with h|h|h|h
  . exact h.2.2.1
  . omega
  . omega
  . omega
theorem JM (s:aT) (hs:s.length<=3000):Pure K 208 [.str s] (.bool (jk s)):=by
 intro U R hR;refine NL ?_;unfold NK;refine (sZ s hs).go ?_;cases hl:eA s with
 | bad p e =>
   have hn:jk s=false:=by
    cases h:jk s with
    | false=>rfl
    | true=>rw[uN h]at hl; cases hl
   rw[hn]at hR;have he:e≠0:=by
    unfold eA at hl;split at hl;split at hl
    . rename_i he; cases hl; exact he
    . exact sh _ _ _ _ hl
   simp only[p7,bh,List.drop,bl,bw,ak,he,dz,bj,show (false==true)=false from rfl,aP,cz,aO,bQ,if_false];exact aq.mk hR
 | ok L =>
   simp only[p7,bh,List.drop,bl,bw,ak,dq,bj,ib];have EJ:=Qv L;have hlen:bR (some false) (nv L)=.val (.int .i64 L.length):=EJ.len;refine kT ?_;rw[hlen];refine kT ?_;rw[bw];refine kT ?_;simp only[aO,if_true,ak]
   by_cases h1:L.length=1
   . match L,h1 with
     | [t],_ =>
       have og:jM t:=(oo hl).1 t (by simp);have tok:∀ (o:Nat) (c:AV) (kq:AV->Prop),(jK t)[o]?=some c->kq c->af K (.bool true) (aJ (some (51,3)) none (nv [t]) (.int .i64 0)) λ a=>af K (.bool true) (ah (some o) a) λ b=>af K (.bool true) (ar (some (false,1)) b U) kq:=λ o c kq hc hk=>by
        obtain⟨r',vD⟩:=D4 hc [];refine pq ⟨by simp,?_⟩;refine pq ?_;simp only[Int.toNat_zero,Nat.zero_mul,dN,di,aD];refine pq ?_;rw[oO,show gB [t]=jK t++[] from rfl,vD,fi]; exact hk
       simp only[lM,sU,cq,show ((1:Nat):Int)=1 from rfl,dq,bj,ib];refine kT (tok 0 (.int .u8 t.k) _ rfl ?_);rw[bw];refine kT ?_;simp only[aO,if_true,ak]
       by_cases hk:(t.k:Int)=1
       . simp only[hk,dq,bj,ib];refine kT (tok 1 (.str t.s) _ rfl (kT ?_));rw[jO];refine kT ?_;simp only[aO,if_true,ak];refine aq.eq hR ?_;rw[AV.bool.injEq,oP,dJ];constructor
         . intro h;have:=og.2;rw[show t.k=1 by omega]at this;rw[<- h]; unfold jk; rw[this]; simp
         . intro h;rw[uN h]at hl;cases hl; rfl
       . simp only[hk,dz,bj,show (false==true)=false from rfl,aP,cz,aO,bQ,if_false,ak];refine aq.eq hR ?_;cases h:jk s with
         | false=>rfl
         | true=>rw[uN h]at hl; cases hl; exact absurd rfl hk
   . have Eg:¬ (L.length:Int)=1:=by omega
     simp only[Eg,dz,bj,show (false==true)=false from rfl,aP,cz,aO,bQ,if_false,ak];refine aq.eq hR ?_;cases h:jk s with
     | false=>rfl
     | true=>rw[uN h]at hl; cases hl; exact absurd rfl h1
where
 Qv (l:List Tk):gx (nv l) l.length (gB l):=by
  unfold nv;split
  . rename_i h; subst h; exact .inl ⟨rfl,rfl,rfl⟩
  . exact .inr ⟨_,rfl⟩
 sh:∀ (f:Nat) (s:aT) (p:Nat) (l:List Tk) {q:Nat} {e:Int},dE f s p l=.bad q e->e≠0
  | 0,s,p,l,q,e,h=>by simp[dE]at h
  | f+1,s,p,l,q,e,h=>by
    simp only[dE]at h;split at h
    . cases h
    . split at h
      . exact sh f s _ l h
      . split at h
        . exact sh f s _ l h
        . split at h
          . rename_i he; cases h; exact he
          . split at h
            . cases h; omega
            . exact sh f s _ _ h
end Go.Rip
