/- Lemmas for the proof: no conditions. -/
import Derived.Test.YtnfpmiiopiinbaaGreatDoorRipZz
import Derived.Test.YtnfpmiiopiinbaaGreatDoorRipS
import Derived.Test.YtnfpmiiopiinbaaGreatDoorRipH
import Derived.Test.YtnfpmiiopiinbaaGreatDoorRipG
import Derived.Test.YtnfpmiiopiinbaaGreatDoorRipP
set_option linter.unusedVariables false
set_option linter.unusedSimpArgs false
set_option linter.loopingSimpArgs false
namespace Go.Rip
open Go.Proofs Go.RowKit
theorem Bx (k:Int):Pure K 179 [.int .u8 k] (.bool (p7 k)):=by
 intro U R hR
 refine OP ?_
 unfold OO
 rw [fO,al]
 refine SD (fun _=>kG ..) (ak.eq hR ?_)
 simp only [p7,AV.bool.injEq]; grind
theorem Bw (k:Int):Pure K 206 [.int .u8 k] (.bool (uT k)):=by
 intro U R hR
 refine O3 ?_
 unfold O0
 rw [bj,al]
 refine JL (fun _=>bj ..) (ak.eq hR ?_)
 simp only [uT,AV.bool.injEq]; grind
theorem Bz (k:Int):Pure K 181 [.int .u8 k] (.bool (rR k)):=by
 intro U R hR
 refine OT ?_
 unfold OS
 refine (Bw k).go ?_
 refine JL (fun _=>bj ..) (ak.eq hR ?_)
 simp only [uT,rR,AV.bool.injEq]; grind
theorem vX (k:Int):Pure K 185 [.int .u8 k] (.bool (di k)):=by
 intro U R hR
 refine OV ?_
 unfold OU
 rw [fO,al]
 refine SD (fun _=>kG ..) (ak.eq hR ?_)
 simp only [di,AV.bool.injEq]; grind
theorem Nn (k:Int):Pure K 207 [.int .u8 k] (.bool (Bg k)):=by
 intro U R hR
 refine O6 ?_
 unfold O5
 refine (vX k).go ?_
 refine JL (fun _=>bj ..) ?_
 refine JL (fun _=>bj ..) (ak.eq hR ?_)
 simp only [di,Bg,AV.bool.injEq]; grind
theorem KD (k c:Int):Pure K 242 [.int .u8 k,.cn [.int .u8 c]] (.bool (decide (k=c))):=by
 intro U R hR
 refine PA ?_
 unfold Pz
 rw [oB,bE]
 exact B1 (ak.mk hR)
theorem oC (a b n:Int):Pure K 122 [.int .i64 a,.int .i64 b,.int .i64 n] (.bool (decide (a <= n/\n <= b))):=by
 intro U R hR
 refine NS ?_
 unfold NR
 refine aae ?_
 by_cases h:a <= n
 . simp only [h,da,aU,gm]
   refine lF (lF ?_)
   rw [kG]
   refine lF ?_
   simp only [aL,if_true,al]
   refine ak.eq hR ?_
   simp [h]
 . simp only [h,dN,aU,show (false == true)=false from rfl,aI,bV,aL,bJ,if_false,al]
   refine ak.eq hR ?_
   simp [h]
def xm:n6->AV
 | .item=>.func (.func 179) [] []
 | .type=>.func (.func 181) [] []
 | .base=>.func (.func 206) [] []
 | .term=>.func (.func 185) [] []
 | .arg=>.func (.func 207) [] []
 | .kind c=>.func (.func 242) [] [.cn [.int .u8 c]]
theorem Xj {c:n6} {k:Int} {U:St} {K':AV->St->Prop} {Kp:AV->St->Prop} (h:K' (.bool (c.is k)) U):(gr K.P (xm c) [.int .u8 k]).wp K U K' Kp:=by
 cases c with
 | item=>simp only [xm,gr,show dU K.P 179=true by kernel_rfl,if_true,jW,kK,ia]; exact (Bx k).go h
 | type=>simp only [xm,gr,show dU K.P 181=true by kernel_rfl,if_true,jW,kK,ia]; exact (Bz k).go h
 | base=>simp only [xm,gr,show dU K.P 206=true by kernel_rfl,if_true,jW,kK,ia]; exact (Bw k).go h
 | term=>simp only [xm,gr,show dU K.P 185=true by kernel_rfl,if_true,jW,kK,ia]; exact (vX k).go h
 | arg=>simp only [xm,gr,show dU K.P 207=true by kernel_rfl,if_true,jW,kK,ia]; exact (Nn k).go h
 | kind c=>simp only [xm,gr,show dU K.P 242=true by kernel_rfl,if_true,jW,kK,ib]; exact (KD k c).go h
def lx (s:mG):List AV:=[xm s.c,.int .i64 (s.least:Nat),.int .i64 (s.na:Nat)]
def mM (l:List mG):List AV:=l.flatMap lx
def kz (l:List mG):AV:=if l=[] then .aw else .vec l.length .full (mM l)
def my (f:jK):List AV:=[.bool f.text,.bool f.n,.bool f.m,kz f.kids]
theorem GU (L:List mG):(mM L).length=3 * L.length:=by
 induction L with
 | nil=>rfl
 | cons t L ih =>
   have:(mM (t::L)).length=3+(mM L).length:=by simp [mM,lx]; omega
   rw [this,ih,jf]; omega
theorem BI (L:List mG) (i:Nat):(mM L).drop (i * 3)=mM (L.drop i):=by
 induction L generalizing i with
 | nil=>simp [mM]
 | cons t L ih =>
   cases i with
   | zero=>simp
   | succ i =>
     rw [Nat.add_mul,show i * 3+1 * 3=3+i * 3 by omega,<- List.drop_drop,List.drop_succ_cons,<- ih]
     rfl
theorem Sa {L:List mG} {i:Nat} {t:mG} (h:L[i]?=some t):∃ r,(mM L).drop (i * 3)=lx t++r:=by
 rw [BI,gl (c8.1 h).1]
 refine ⟨mM (L.drop (i+1)),?_⟩
 have:=(c8.1 h).2
 simp [mM,this]
theorem Sb (l:List mG):dA (kz l) l.length (mM l):=by
 unfold kz
 split
 . rename_i h; subst h; exact .inl ⟨rfl,rfl,rfl⟩
 . exact .inr ⟨_,rfl⟩
theorem Un {v:AV} {ss:List mG} {s:mG} {i:Nat} {U:St} {K':AV->St->Prop} {Kp:AV->St->Prop} (hv:dA v ss.length (mM ss)) (hs:ss[i]?=some s) (hk:K' (.agg (lx s)) U) :
 (aG (some (200,3)) none v (.int .i64 (i:Nat))).wp K U (fun p U=>(ah (some (true,3)) p U).wp K U K' Kp) Kp:=by
 have aO:=(c8.1 hs).1
 obtain ⟨c,rfl,q9⟩:=hv.at (sz:=3) (e:=200) aO
 obtain ⟨r,hr⟩:=Sa hs
 rw [q9,hr]
 refine ⟨by omega,?_⟩
 rw [al,vb]
 refine ⟨by simp [lx],?_⟩
 have:(lx s++r).take 3=lx s:=by simp [lx]
 rw [this]; exact hk
theorem DJ {k:Int} {z:AV}:∀ (ks:List Int) (vs:List AV),(∀ j ∈ ks,j ≠ k)->lI .i (.int .u8 k) z true (ks.map (.int .u8)) vs=.val (.aF [z,.bool false])
 | [],vs,_=>by cases vs <;> rfl
 | j::ks,[],_=>rfl
 | j::ks,v::vs,h=>by
   have hj:¬ k=j:=fun e=>h j (by simp) e.symm
   have:gk .i (.int .u8 k) (.int .u8 j)=some false:=by simp [gk,hj]
   simp only [dV,lI,this,bJ,if_false]
   exact DJ ks vs fun x hx=>h x (by simp [hx])
def Hj:AV:=.agg [AV.bool false,AV.bool false,AV.bool false,AV.aw]
def Ng (n:Nat):Bool:=match oh with
 | .eZ ks vs=>(match lI .i (.int .u8 n) Hj true ks vs with
   | .val v=>ij v (match cx n with | some f=>.aF [.agg (my f),.bool true] | none=>.aF [Hj,.bool false])
   | _=>false)
 | _=>false
theorem KB:∀ n:Fin 38,Ng n.val=true:=by decide +kernel
end Go.Rip
namespace Go.Rip
open Go.Proofs Go.RowKit
theorem HK (ks:List Int):(mA ks).length=ks.length:=by simp [mA]
theorem aa7 {U:St} {v:AV} {ks:List Int} {i e:Nat} {k:Int} {kq:AV->AV->Prop} (hv:dA v ks.length (mA ks)) (hk:ks[i]?=some k) (h:∀ L,kq (.cn L) (.int .u8 k)) :
 ai K (.bool true) (aG (some (e,1)) none v (.int .i64 (i:Nat))) fun p=>ai K (.bool true) (ah (some (false,1)) p U) (kq p):=by
 have aO:=(c8.1 hk).1
 obtain ⟨c,rfl,q9⟩:=hv.at (sz:=1) (e:=e) aO
 obtain ⟨r,hr⟩:=UN hk
 rw [q9,Nat.mul_one,hr]
 exact qe ⟨by omega,qe (h _)⟩
theorem YB {v:AV} {ks:List Int} {i:Nat} {e:Nat} {U:St} {K':AV->St->Prop} {Kp:AV->St->Prop} (hv:dA v ks.length (mA ks)) (hi:i <= ks.length) (hk:∀ v',dA v' (ks.drop i).length (mA (ks.drop i))->K' v' U) :
 (eI false (some (e,1)) v (some (.int .i64 (i:Nat))) none).wp K U K' Kp:=by
 rcases hv with ⟨h0,h1,rfl⟩ | ⟨c,rfl⟩
 . have gh:ks=[]:=qS.1 h0
   subst gh
   have xH:i=0:=by simpa using hi
   subst xH
   simp only [eI,dt,wp_cond,al]
   refine ⟨by simp,hk _ (.inl ⟨rfl,rfl,rfl⟩)⟩
 . rw [yl,iE,lD]
   refine ⟨by omega,?_⟩
   refine hk _ (.inr ⟨vp c none,?_⟩)
   have:ks.length - i=(ks.drop i).length:=by rw [List.length_drop]
   simp only [gb,Nat.mul_one,this]
   rw [pL (by rw [HK]; exact dk _)]
   congr 1
   simp [mA,List.map_drop]
theorem Vt {ss:List mG} {i:Nat} {U:St} {K':AV->St->Prop} {Kp:AV->St->Prop} (hi:i < ss.length) (hk:∀ v',dA v' (ss.drop (i+1)).length (mM (ss.drop (i+1)))->K' v' U) :
 (eI false (some (200,3)) (kz ss) (some (.int .i64 ((i:Nat)+1))) none).wp K U K' Kp:=by
 have bT:ss ≠ []:=by intro e; subst e; simp at hi
 unfold kz
 rw [if_neg bT,yl,iE,lD]
 refine ⟨by omega,?_⟩
 refine hk _ (.inr ⟨vp .full none,?_⟩)
 have:(ss.length:Int).toNat - ((i:Int)+1).toNat=(ss.drop (i+1)).length:=by rw [List.length_drop]; omega
 rw [this]
 congr 1
 rw [gb,pL (by rw [GU]; omega),show ((i:Int)+1).toNat=i+1 by omega,BI]
def tg (ks:List Int) (s:mG) (rest:Nat):Nat:=((ks.take (min (ks.length - rest) s.na)).takeWhile s.c.is).length
theorem L5 (ks:List Int) (s:mG) (ss:List mG):eu ks (s::ss)=if tg ks s (ss.map (·.least)).sum < s.least then false else eu (ks.drop (tg ks s (ss.map (·.least)).sum)) ss:=by
 rw [eu]; rfl
theorem CQ {p:Int->Bool}:∀ {l:List Int} {i:Nat},(∀ j (h:j < l.length),j < i->p l[j]=true)->i <= l.length->(i=l.length\/∃ h:i < l.length,p l[i]=false)->(l.takeWhile p).length=i
 | [],i,_,hi,_=>by simp at hi; simp [hi]
 | a::l,0,_,_,he=>by
   rcases he with he | ⟨h,he⟩
   . simp at he
   . rw [pK]; simp at he; simp [he]
 | a::l,i+1,bO,hi,he=>by
   have ha:p a=true:=bO 0 (by simp) (by omega)
   rw [pK,if_pos ha,jf]
   congr 1
   refine CQ (fun j h hj=>?_) (by simpa using hi) ?_
   . have:=bO (j+1) (by simp; omega) (by omega)
     simpa using this
   . rcases he with he | ⟨h,he⟩
     . left; simpa using he
     . right; exact ⟨by simpa using h,by simpa using he⟩
theorem Xo {U:St} {R:cA->St->Prop} {v:AV} {ks:List Int} {ss:List mG} (hv:dA v ks.length (mA ks)) (hl:ks.length <= 100000) (lf:ss.length <= 100) (px:∀ s ∈ ss,s.least <= 1000/\s.na <= 1000)
 (h:∀ ad,cN U ad->R (.ret (.bool (eu ks ss))) ad):ae K 209 [v,kz ss] U R:=by
 refine Pa ?_
 unfold O9
 have hss:=Sb ss
 have hlen:cj (some false) (kz ss)=.val (.int .i64 ss.length):=hss.len
 rw [hlen,al]
 refine ⟨fun m v0 v1 v11 v12 cb ad=>∃ (i:Nat) (ks':List Int),m=ss.length - i/\v1=kz ss/\v11=kz ss/\v12=.int .i64 ss.length/\cb=.int .i64 (i:Nat)/\i <= ss.length/\dA v0 ks'.length (mA ks')/\ks'.length <= ks.length/\eu ks' (ss.drop i)=eu ks ss/\cN U ad,
  ⟨_,0,ks,rfl,rfl,rfl,rfl,rfl,by omega,hv,dk _,rfl,cN.refl _⟩,?_⟩
 rintro m v0 v1 v11 v12 cb aP ⟨i,ks',rfl,rfl,rfl,rfl,rfl,hi,Tf,qD,nT,e1⟩
 refine Hg (fun aO=>?_) fun jo=>?_
 . have aO:i < ss.length:=by omega
   obtain ⟨s,hs⟩:∃ s,ss[i]?=some s:=⟨ss[i],by simp [aO]⟩
   have IE:=px s (fj hs)
   have vA:ss.drop i=s::ss.drop (i+1):=by
    rw [gl aO]
    have:=(c8.1 hs).2
    rw [this]
   refine Un hss hs ?_
   rw [cS]
   intro b6 sW
   have m6:(aP.new b6 (.box [AV.dj,AV.int .i64 0,AV.int .i64 0])).box b6=some [AV.dj,AV.int .i64 0,AV.int .i64 0]:=aK
   have e2:=e1.new sW (x:=.box [AV.dj,AV.int .i64 0,AV.int .i64 0])
   have f6:=e1.fresh sW.1
   generalize aP.new b6 (.box [AV.dj,AV.int .i64 0,AV.int .i64 0])=aZ at *
   rw [cX m6]
   refine ⟨⟨rfl,rfl,by simp⟩,?_⟩
   have g6:(aZ.set b6 (.box (aB [AV.dj,AV.int .i64 0,AV.int .i64 0] 0 (au (.agg (lx s)))))).box b6=some (lx s):=by rw [aW]; rfl
   have e3:=e2.set f6 (x:=.box (aB [AV.dj,AV.int .i64 0,AV.int .i64 0] 0 (au (.agg (lx s)))))
   generalize aZ.set b6 (.box (aB [AV.dj,AV.int .i64 0,AV.int .i64 0] 0 (au (.agg (lx s)))))=bZ at *
   rw [dr]
   refine ⟨bw (by omega) (by omega),?_⟩
   refine Vt aO fun v21 h21=>?_
   have X9:cj (some false) v21=.val (.int .i64 (ss.drop (i+1)).length):=h21.len
   rw [X9,al]
   generalize JZ:ss.drop (i+1)=rest at *
   have hrl:rest.length <= 100:=by rw [<- JZ,List.length_drop]; omega
   have hrm:∀ s ∈ rest,s.least <= 1000:=fun s hs=>(px s (by rw [<- JZ] at hs; exact List.mem_of_mem_drop hs)).1
   have Yo:∀ n,((rest.take n).map (·.least)).sum <= 1000 * n:=by
    have:∀ (l:List mG) (n:Nat),(∀ s ∈ l,s.least <= 1000)->((l.take n).map (·.least)).sum <= 1000 * n:=by
     intro l
     induction l with
     | nil=>intro n _; simp
     | cons a l ih =>
       intro n hm
       cases n with
       | zero=>simp
       | succ n =>
         have:=ih n fun s hs=>hm s (by simp [hs])
         have:=hm a (by simp)
         simp only [List.take_succ_cons,dV,List.sum_cons]; omega
    exact fun n=>this rest n hrm
   refine ⟨fun m w0 w1 w6 w7 P4 P5 D8 w21 w22 w23 ad=>∃ j:Nat,m=rest.length - j/\w0=v0/\w1=kz ss/\w6=.box b6 0/\w7=.int .i64 (((rest.take j).map (·.least)).sum:Nat)/\P4=kz ss/\P5=.int .i64 ss.length/\D8=.int .i64 (i:Nat)/\w21=v21/\w22=.int .i64 rest.length/\w23=.int .i64 (j:Nat)/\j <= rest.length/\ad.box b6=some (lx s)/\cN U ad,
    ⟨_,0,rfl,rfl,rfl,rfl,rfl,rfl,rfl,rfl,rfl,rfl,rfl,by omega,g6,e3⟩,?_⟩
   clear e2 e3 g6 m6 sW
   rintro m w0 w1 w6 w7 P4 P5 D8 w21 w22 w23 cC ⟨j,rfl,rfl,rfl,rfl,rfl,rfl,rfl,rfl,rfl,rfl,rfl,hj,g6,e4⟩
   refine Hg (fun FM=>?_) fun aey=>?_
   . have FM:j < rest.length:=by omega
     obtain ⟨s2,xM⟩:∃ s2,rest[j]?=some s2:=⟨rest[j],by simp [FM]⟩
     refine Un h21 xM ?_
     rw [cS]
     intro b9 SK
     have m9:(cC.new b9 (.box [AV.dj,AV.int .i64 0,AV.int .i64 0])).box b9=some [AV.dj,AV.int .i64 0,AV.int .i64 0]:=aK
     have e5:=e4.new SK (x:=.box [AV.dj,AV.int .i64 0,AV.int .i64 0])
     have f9:=e4.fresh SK.1
     have n9:=SK.bK g6
     have g6':=(a7 SK (x:=.box [AV.dj,AV.int .i64 0,AV.int .i64 0])).aS g6
     generalize cC.new b9 (.box [AV.dj,AV.int .i64 0,AV.int .i64 0])=dm at *
     rw [cX m9]
     refine ⟨⟨rfl,rfl,by simp⟩,?_⟩
     have g9:(dm.set b9 (.box (aB [AV.dj,AV.int .i64 0,AV.int .i64 0] 0 (au (.agg (lx s2)))))).box b9=some (lx s2):=by rw [aW]; rfl
     have acL:(dm.set b9 (.box (aB [AV.dj,AV.int .i64 0,AV.int .i64 0] 0 (au (.agg (lx s2)))))).box b6=some (lx s):=by rw [aN n9]; exact g6'
     have e6:=e5.set f9 (x:=.box (aB [AV.dj,AV.int .i64 0,AV.int .i64 0] 0 (au (.agg (lx s2)))))
     generalize dm.set b9 (.box (aB [AV.dj,AV.int .i64 0,AV.int .i64 0] 0 (au (.agg (lx s2)))))=mi at *
     simp only [bg,al,cV]
     refine dq g9 rfl ?_
     have fX:=Yo j
     have fY:=hrm s2 (fj xM)
     rw [dr]
     refine ⟨bw (by omega) (by omega),?_⟩
     rw [dr]
     refine ⟨bw (by omega) (by omega),rest.length - (j+1),by omega,j+1,rfl,rfl,rfl,rfl,?_,rfl,rfl,rfl,rfl,rfl,by simp,FM,acL,e6⟩
     have:rest.take (j+1)=rest.take j++[s2]:=by rw [qU,xM]; rfl
     rw [this]; simp
   . have hj:j=rest.length:=by omega
     subst hj
     rw [sE]
     have fX:=Yo rest.length
     rw [sE] at fX
     generalize adn:(rest.map (·.least)).sum=sm at *
     have abg:eu ks' (s::rest)=if tg ks' s sm < s.least then false else eu (ks'.drop (tg ks' s sm)) rest:=by rw [L5,adn]
     rw [vA,abg] at nT
     refine ⟨fun m u0 w1 w6 w7 D7 P4 P5 D8 ad=>∃ q:Nat,m=ks'.length - q/\u0=w0/\w1=kz ss/\w6=.box b6 0/\w7=.int .i64 (sm:Nat)/\D7=.int .i64 (q:Nat)/\P4=kz ss/\P5=.int .i64 ss.length/\D8=.int .i64 (i:Nat)/\q <= min (ks'.length - sm) s.na/\(∀ (p:Nat) (hp:p < ks'.length),p < q->s.c.is ks'[p]=true)/\ad.box b6=some (lx s)/\cN U ad,
      ⟨_,0,rfl,rfl,rfl,rfl,rfl,rfl,rfl,rfl,rfl,by omega,fun p hp h=>by omega,g6,e4⟩,?_⟩
     clear g6 e4
     rintro m u0 w1 w6 w7 D7 P4 P5 D8 dm ⟨q,rfl,rfl,rfl,rfl,rfl,rfl,rfl,rfl,rfl,hq,bO,g6,e5⟩
     intro jj zk
     have JX:cj (some false) u0=.val (.int .i64 ks'.length):=Tf.len
     have stop:tg ks' s sm=q->jj u0 (kz ss) (.box b6 0) (.int .i64 (sm:Nat)) (.int .i64 (q:Nat)) (kz ss) (.int .i64 ss.length) (.int .i64 (i:Nat)) (.bool false) dm:=fun hmq=>by
      refine zk _ _ _ _ _ _ _ _ _ _ ?_
      refine cO ?_
      simp only [bg,al,cV]
      refine dq g6 rfl ?_
      rw [hmq] at nT
      refine Hg (fun hml=>?_) fun hml=>?_
      . rw [if_pos (by omega)] at nT
        refine ak.mk ?_
        rw [nT]; exact h _ e5
      . rw [if_neg (by omega)] at nT
        refine YB Tf (by omega) fun ly h61=>?_
        rw [dr]
        refine ⟨bw (by omega) (by omega),ss.length - (i+1),by omega,i+1,ks'.drop q,rfl,rfl,rfl,rfl,by simp,aO,h61,by simp; omega,?_,e5⟩
        rw [JZ]; exact nT
     have go:q < min (ks'.length - sm) s.na->(∀ k,ks'[q]?=some k->s.c.is k=true)->jj u0 (kz ss) (.box b6 0) (.int .i64 (sm:Nat)) (.int .i64 (q:Nat)) (kz ss) (.int .i64 ss.length) (.int .i64 (i:Nat)) (.bool true) dm:=fun hql hqs=>by
      refine zk _ _ _ _ _ _ _ _ _ _ ?_
      refine df ?_
      rw [dr]
      refine ⟨bw (by omega) (by omega),ks'.length - (q+1),by omega,q+1,rfl,rfl,rfl,rfl,rfl,by simp,rfl,rfl,rfl,by omega,fun p hp S8=>?_,g6,e5⟩
      rcases je p q with aO | jo
      . exact bO p hp aO
      . have:p=q:=by omega
        subst this; exact hqs _ (by simp [hp])
     have na:q=min (ks'.length - sm) s.na->tg ks' s sm=q:=fun hqe=>by
      unfold tg
      rw [<- hqe]
      refine CQ (fun p hp S8=>?_) (by simp; omega) (.inl (by simp; omega))
      have:=bO p (by simp at hp; omega) S8
      simpa using this
     simp only [JX,aC,iy,fl,iD]
     refine ⟨bw (by omega) (by omega),?_⟩
     rw [bP,aC]
     by_cases h1:(q:Int) < (ks'.length:Int) - (sm:Nat)
     . simp only [h1,da,aU,gm]
       refine lF (Xv (Xw g6 rfl ?_))
       rw [bP]
       refine lF ?_
       simp only [aL,if_true,aC]
       by_cases h2:(q:Int) < (s.na:Nat)
       . have hqk:q < ks'.length:=by omega
         have hx:ks'[q]?=some ks'[q]:=by simp [hqk]
         simp only [h2,da,aU,gm]
         refine Xv (Xw g6 rfl (lF (lF (aa7 Tf hx fun L=>?_))))
         refine df ?_
         refine Xj ⟨fun b hb=>rfl,?_⟩
         simp only [aL,if_true,aC]
         cases hc:s.c.is ks'[q] with
         | true=>exact go (by omega) fun k hk=>by rw [hx] at hk; cases hk; exact hc
         | false =>
           refine stop ?_
           unfold tg
           refine CQ (fun p hp S8=>?_) (by simp; omega) (.inr ⟨by simp; omega,by simpa using hc⟩)
           have:=bO p (by simp at hp; omega) S8
           simpa using this
       . simp only [h2,dN,aU,show (false == true)=false from rfl,aI,bV,aL,bJ,if_false,aC]
         exact cO (stop (na (by omega)))
     . simp only [h1,dN,aU,show (false == true)=false from rfl,aI,bV,aL,bJ,if_false,aC]
       exact cO (stop (na (by omega)))
 . have hi:i=ss.length:=by omega
   subst hi
   rw [List.drop_length] at nT
   have JX:cj (some false) v0=.val (.int .i64 ks'.length):=Tf.len
   rw [JX,al]
   refine B1 (ak.eq (h _ e1) ?_)
   rw [<- nT,eu,AV.bool.injEq,nY,List.isEmpty_iff,dI]
   constructor
   . intro h; exact qS.1 (by omega)
   . rintro rfl; rfl
end Go.Rip
namespace Go.Rip
open Go.Proofs Go.RowKit
def Gc (l:List Nd) (en:Int):Nat->Nat->Nat
 | 0,p=>p
 | f+1,p=>match l[p]? with
   | some x=>if (p:Int) < en/\0 < x.size then Gc l en f (p+x.size.toNat) else p
   | none=>p
def behind (l:List Nd) (p:Nat) (ks:List Nat):Nat:=ks.foldl (fun _ k=>k+eW l k) p
theorem y8 (l:List Nd) (p:Nat) (ks:List Nat) (k:Nat):behind l p (ks++[k])=k+eW l k:=by simp [behind]
theorem DC (l:List Nd) (en:Int):∀ (f p:Nat),behind l p (ee l en f p)=Gc l en f p
 | 0,p=>rfl
 | f+1,p=>by
   simp only [ee,Gc]
   cases hx:l[p]? with
   | none=>rfl
   | some x =>
     simp only
     by_cases h:(p:Int) < en/\0 < x.size
     . rw [if_pos h,if_pos h,<- DC l en f]
       have:eW l p=x.size.toNat:=by unfold eW; rw [hx]; rfl
       simp only [behind,List.foldl_cons,this]
     . rw [if_neg h,if_neg h]; rfl
theorem DD {l:List Nd} (hs:AA l) {en:Nat} (FC:en <= l.length):∀ (f p:Nat),Gc l en f p=qw l en f p
 | 0,p=>rfl
 | f+1,p=>by
   simp only [Gc]
   by_cases hp:p < en
   . have aO:p < l.length:=by omega
     have hx:l[p]?=some l[p]:=by simp [aO]
     have:=hs.2.2 p _ hx
     rw [wy hx hp,hx]
     simp only
     rw [if_pos ⟨by omega,by omega⟩]
     exact DD hs FC f _
   . rw [wz hp]
     split
     . rw [if_neg (fun h=>hp (by omega))]
     . rfl
def gG (l:List Nd) (ks:List Nat):List Int:=ks.map fun k=>((l[k]?.map Nd.kind).getD 0)
def iB (l:List Nd) (n:Nat) (x:Nd):Bool:=match cx x.kind with
 | none=>false
 | some f=>decide (1 <= x.size/\x.size <= (l.length:Int) - n) && (jL x f && ((ee l ((n:Int)+x.size) l.length (n+1)).all (fun k=>decide (1 <= eW l k/\(k:Int)+eW l k <= n+x.size)) &&
    (decide (((behind l (n+1) (ee l ((n:Int)+x.size) l.length (n+1)):Nat):Int)=n+x.size) && eu (gG l (ee l ((n:Int)+x.size) l.length (n+1))) f.kids)))
theorem DL {l:List Nd} {n:Nat} {s:Tre} {x:Nd} (hs:et l n s) (hx:l[n]?=some x):iB l n x=vP x (s.kids.map Tre.kind):=by
 obtain ⟨y,hy,_,dQ,_⟩:=hs.mV
 rw [hx] at hy; cases hy
 have hle:=hs.le
 have pw:=s.dB
 have hk:ee l ((n:Int)+x.size) l.length (n+1)=cE (n+1) s.kids:=by rw [dQ]; exact sk hs
 have Dg:=lE s
 have fg:∀ (ts:List Tre) (p:Nat),kD l p ts->(cE p ts).all (fun k=>decide (1 <= eW l k/\(k:Int)+eW l k <= (p:Int)+(Tre.bA ts).length))=true/\behind l p (cE p ts)=p+(Tre.bA ts).length/\gG l (cE p ts)=ts.map Tre.kind:=by
  intro ts
  induction ts with
  | nil=>intro p _; simp [cE,behind,gG]
  | cons t ts ih =>
    intro p xN
    obtain ⟨z,hz,ME,uO,_⟩:=xN.head.mV
    have htp:=t.dB
    have ID:eW l p=t.flat.length:=by unfold eW; rw [hz]; simp; omega
    obtain ⟨i1,i2,i3⟩:=ih _ xN.tail
    refine ⟨?_,?_,?_⟩
    . simp only [cE,List.all_cons,bL,dI,ID,Tre.cW,dh]
      refine ⟨⟨by omega,by omega⟩,?_⟩
      rw [eC] at i1 ⊢
      intro k hk
      have:=i1 k hk
      simp only [dI] at this ⊢
      omega
    . simp only [cE,behind,List.foldl_cons,ID]
      have:behind l (p+t.flat.length) (cE (p+t.flat.length) ts)=p+(Tre.bA (t::ts)).length:=by rw [i2]; simp; omega
      exact this
    . simp only [cE,gG,dV,hz,Option.map_some,Option.getD_some,ME]
      congr 1
 obtain ⟨h1,h2,h3⟩:=fg s.kids (n+1) hs.kids
 unfold iB vP QI
 cases hf:cx x.kind with
 | none=>simp
 | some f =>
   simp only
   rw [hk,C9 hf,h2,h3]
   have e1:decide (1 <= x.size/\x.size <= (l.length:Int) - n)=true:=by rw [dI]; omega
   have e2:(cE (n+1) s.kids).all (fun k=>decide (1 <= eW l k/\(k:Int)+eW l k <= n+x.size))=true:=by
    rw [eC] at h1 ⊢
    intro k hk
    have:=h1 k hk
    simp only [dI] at this ⊢
    omega
   have e3:decide (((n+1+(Tre.bA s.kids).length:Nat):Int)=n+x.size)=true:=by rw [dI]; omega
   rw [e1,e2,e3]; simp
theorem zB {l:List Nd} (bT:l ≠ []) (h0:mL l=l.length) (h:∀ n x,l[n]?=some x->iB l n x=true):Ei l:=by
 have xL:AA l:=by
  refine ⟨bT,h0,fun i x hx=>?_⟩
  have:=h i x hx
  unfold iB at this
  split at this
  . cases this
  . simp only [bL,dI] at this
    exact this.1
 refine ⟨xL,fun i x hx=>?_⟩
 have hq:=h i x hx
 have Td:=xL.2.2 i x hx
 unfold iB at hq
 split at hq
 . cases hq
 . simp only [bL,dI] at hq
   have hb:=hq.2.2.2.1
   rw [DC] at hb
   have e:((i:Int)+x.size)=((i+x.size.toNat:Nat):Int):=by omega
   rw [e] at hb
   rw [<- DD xL (by omega)]
   exact_mod_cast hb
theorem DR {l:List Nd} {x0:Nd} (h0:l[0]?=some x0):(x0.kind=1/\x0.size=l.length/\∀ n x,l[n]?=some x->iB l n x=true) ↔ ∃ t:Tre,l=t.flat/\t.kind=1/\t.ok=true:=by
 constructor
 . rintro ⟨h1,h2,h3⟩
   have bT:l ≠ []:=by intro e; subst e; simp at h0
   have xK:mL l=l.length:=by
    cases l with
    | nil=>exact absurd rfl bT
    | cons y r=>simp at h0; subst h0; exact h2
   obtain ⟨t,rfl⟩:=(DY l).1 (zB bT xK h3)
   obtain ⟨y,hy,hk,_⟩:=(et.whole t).mV
   rw [h0] at hy; cases hy
   refine ⟨t,rfl,by rw [<- hk,h1],?_⟩
   have:=Gu (l:=t.flat) _ [t] 0 (dk _) ⟨[],by simp⟩ (fun j s x _ hj hs hx=>by rw [<- DL hs hx]; exact h3 j x hx)
   simpa using this
 . rintro ⟨t,rfl,hk,ho⟩
   obtain ⟨y,hy,hyk,hys,_⟩:=(et.whole t).mV
   rw [h0] at hy; cases hy
   refine ⟨by rw [hyk,hk],hys,fun n x hx=>?_⟩
   obtain ⟨⟨s,_,hs,_⟩,_⟩:=place t (c8.1 hx).1
   rw [DL hs hx]
   exact Rs (ZA ho hs) hs hx
theorem rv {l:List Nd} (h9:¬ 900 < l.length) (h:¬ ∃ t:Tre,l=t.flat/\t.kind=1/\t.ok=true):gg l=4:=by
 unfold gg
 rw [if_neg h9]
 cases ht:As l with
 | none=>rfl
 | some t =>
   have:=PW ht
   subst this
   show Cc t=4
   unfold Cc
   rw [if_pos]
   by_cases hk:t.kind=1
   . right
     cases ho:t.ok with
     | false=>rfl
     | true=>exact absurd ⟨t,rfl,hk,ho⟩ h
   . exact .inl hk
theorem Ii {c:UInt8} (h:eO c=true):pB c=true/\c.toNat ≠ 32/\c.toNat ≠ 10/\c.toNat ≠ 126:=by
 simp only [eO,fS,oF,J9,iL,dI] at h
 simp only [pB,dI]
 omega
theorem vO {s:aQ} (h:mD s=true):pE s=.ok [⟨1,s,0⟩]:=by
 have hlen:=HP h
 unfold mD at h
 rw [dI] at h
 rcases tB h with ⟨_,_,_,⟨c,r,e,hc⟩,bO⟩ | h' | h' | h'
 . have QU:tO s=(0,0):=by
    unfold tO
    rw [if_neg (by omega)]
    have:s.findIdx? (fun c=>!pB c)=none:=by
     rw [List.findIdx?_eq_none_iff]
     intro x hx
     rw [eC] at bO
     have:=Ii (bO x hx)
     simp [this.1]
    rw [this]
   unfold pE
   rw [QU]
   simp only [ne_eq,not_true,if_false]
   obtain ⟨n,hn⟩:∃ n,s.length=n+1:=⟨r.length,by rw [e]; simp⟩
   rw [hn,mB]
   subst e
   have aew:=Ii (show eO c=true by rw [eC] at bO; exact bO c (by simp))
   simp only [dJ]
   rw [if_neg (by omega),if_neg (by omega),h]
   simp only [ne_eq,not_true,if_false,oQ,show ¬ ((0:Nat)=900) by omega,cV,kK]
   have Yd:r.length=n:=by simpa using hn
   cases n with
   | zero=>simp only [mB]
   | succ n =>
     rw [mB,List.drop_of_length_le (by simp)]
 . omega
 . omega
 . omega
where
 HP {s:aQ} (h:mD s=true):s.length <= 12:=by
  unfold mD at h
  rw [dI] at h
  rcases tB h with h | h | h | h
  . exact h.2.2.1
  . omega
  . omega
  . omega
theorem KE (s:aQ) (hs:s.length <= 3000):Pure K 208 [.str s] (.bool (mD s)):=by
 intro U R hR
 refine O8 ?_
 unfold O7
 refine (H5 s hs).go ?_
 cases hl:pE s with
 | bad p e =>
   have hn:mD s=false:=by
    cases h:mD s with
    | false=>rfl
    | true=>rw [vO h] at hl; cases hl
   rw [hn] at hR
   have he:e ≠ 0:=by
    unfold pE at hl
    split at hl
    split at hl
    . rename_i he; cases hl; exact he
    . exact tc _ _ _ _ hl
   simp only [yq,bB,List.drop,bE,bj,al,he,dN,aU,show (false == true)=false from rfl,aI,bV,aL,bJ,if_false]
   exact ak.mk hR
 | ok L =>
   simp only [yq,bB,List.drop,bE,bj,al,da,aU,gm]
   have sZ:=Sh L
   have hlen:cj (some false) (wk L)=.val (.int .i64 L.length):=sZ.len
   refine lF ?_
   rw [hlen]
   refine lF ?_
   rw [bj]
   refine lF ?_
   simp only [aL,if_true,al]
   by_cases h1:L.length=1
   . match L,h1 with
     | [t],_ =>
       have py:qM t:=(UT hl).1 t (by simp)
       have tok:∀ (o:Nat) (c:AV) (kq:AV->Prop),(oy t)[o]?=some c->kq c->ai K (.bool true) (aG (some (51,3)) none (wk [t]) (.int .i64 0)) fun a=>ai K (.bool true) (af (some o) a) fun b=>ai K (.bool true) (ah (some (false,1)) b U) kq:=fun o c kq hc hk=>by
        obtain ⟨r',pU⟩:=vq hc []
        refine qe ⟨by simp,?_⟩
        refine qe ?_
        simp only [Int.toNat_zero,Nat.zero_mul,dJ,cU,aC]
        refine qe ?_
        rw [l9,show il [t]=oy t++[] from rfl,pU,fi]; exact hk
       simp only [jf,oQ,cV,show ((1:Nat):Int)=1 from rfl,da,aU,gm]
       refine lF (tok 0 (.int .u8 t.k) _ rfl ?_)
       rw [bj]
       refine lF ?_
       simp only [aL,if_true,al]
       by_cases hk:(t.k:Int)=1
       . simp only [hk,da,aU,gm]
         refine lF (tok 1 (.str t.s) _ rfl (lF ?_))
         rw [ix]
         refine lF ?_
         simp only [aL,if_true,al]
         refine ak.eq hR ?_
         rw [AV.bool.injEq,nY,dI]
         constructor
         . intro h
           have:=py.2
           rw [show t.k=1 by omega] at this
           rw [<- h]; unfold mD; rw [this]; simp
         . intro h
           rw [vO h] at hl
           cases hl; rfl
       . simp only [hk,dN,aU,show (false == true)=false from rfl,aI,bV,aL,bJ,if_false,al]
         refine ak.eq hR ?_
         cases h:mD s with
         | false=>rfl
         | true=>rw [vO h] at hl; cases hl; exact absurd rfl hk
   . have r9:¬ (L.length:Int)=1:=by omega
     simp only [r9,dN,aU,show (false == true)=false from rfl,aI,bV,aL,bJ,if_false,al]
     refine ak.eq hR ?_
     cases h:mD s with
     | false=>rfl
     | true=>rw [vO h] at hl; cases hl; exact absurd rfl h1
where
 Sh (l:List Tk):dA (wk l) l.length (il l):=by
  unfold wk
  split
  . rename_i h; subst h; exact .inl ⟨rfl,rfl,rfl⟩
  . exact .inr ⟨_,rfl⟩
 tc:∀ (f:Nat) (s:aQ) (p:Nat) (l:List Tk) {q:Nat} {e:Int},mB f s p l=.bad q e->e ≠ 0
  | 0,s,p,l,q,e,h=>by simp [mB] at h
  | f+1,s,p,l,q,e,h=>by
    simp only [mB] at h
    split at h
    . cases h
    . split at h
      . exact tc f s _ l h
      . split at h
        . exact tc f s _ l h
        . split at h
          . rename_i he; cases h; exact he
          . split at h
            . cases h; omega
            . exact tc f s _ _ h
end Go.Rip
