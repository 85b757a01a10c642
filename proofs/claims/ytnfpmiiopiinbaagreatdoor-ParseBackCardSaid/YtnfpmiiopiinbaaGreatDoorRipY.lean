/- Lemmas for the proof: no conditions. -/
import Derived.Test.YtnfpmiiopiinbaaGreatDoorRipZz
import Derived.Test.YtnfpmiiopiinbaaGreatDoorRipS
import Derived.Test.YtnfpmiiopiinbaaGreatDoorRipH
import Derived.Test.YtnfpmiiopiinbaaGreatDoorRipG
import Derived.Test.YtnfpmiiopiinbaaGreatDoorRipP
set_option linter.unusedVariables false
set_option linter.unusedSimpArgs false
set_option linter.loopingSimpArgs false
namespace Go.Rip
open Go.Proofs Go.RowKit
theorem Dk (k:Int):Pure K 179 [.int .u8 k] (.bool (iQ k)):=by
 intro U R hR
 refine RF ?_
 unfold RE
 rw [il,al]
 refine VP (fun _=>mA ..) (ak.eq hR ?_)
 simp only [iQ,AV.bool.injEq]; grind
theorem Dj (k:Int):Pure K 206 [.int .u8 k] (.bool (oD k)):=by
 intro U R hR
 refine RS ?_
 unfold RR
 rw [br,al]
 refine Mp (fun _=>br ..) (ak.eq hR ?_)
 simp only [oD,AV.bool.injEq]; grind
theorem Dm (k:Int):Pure K 181 [.int .u8 k] (.bool (pC k)):=by
 intro U R hR
 refine RJ ?_
 unfold RI
 refine (Dj k).go ?_
 refine Mp (fun _=>br ..) (ak.eq hR ?_)
 simp only [oD,pC,AV.bool.injEq]; grind
theorem x8 (k:Int):Pure K 185 [.int .u8 k] (.bool (cq k)):=by
 intro U R hR
 refine RM ?_
 unfold RL
 rw [il,al]
 refine VP (fun _=>mA ..) (ak.eq hR ?_)
 simp only [cq,AV.bool.injEq]; grind
theorem P3 (k:Int):Pure K 207 [.int .u8 k] (.bool (ng k)):=by
 intro U R hR
 refine RU ?_
 unfold RT
 refine (x8 k).go ?_
 refine Mp (fun _=>br ..) ?_
 refine Mp (fun _=>br ..) (ak.eq hR ?_)
 simp only [cq,ng,AV.bool.injEq]; grind
theorem Nk (k c:Int):Pure K 242 [.int .u8 k,.cN [.int .u8 c]] (.bool (decide (k=c))):=by
 intro U R hR
 refine Sn ?_
 unfold Sm
 rw [ox,bA]
 exact AR (ak.mk hR)
theorem qh (a b n:Int):Pure K 122 [.int .i64 a,.int .i64 b,.int .i64 n] (.bool (decide (a <= n/\n <= b))):=by
 intro U R hR
 refine QI ?_
 unfold QH
 refine aco ?_
 by_cases h:a <= n
 . simp only [h,du,bf,gR]
   refine nO (nO ?_)
   rw [mA]
   refine nO ?_
   simp only [aM,if_true,al]
   refine ak.eq hR ?_
   simp [h]
 . simp only [h,eB,bf,show (false == true)=false from rfl,aN,cF,aM,bU,if_false,al]
   refine ak.eq hR ?_
   simp [h]
def zd:iK->AV
 | .item=>.func (.func 179) [] []
 | .type=>.func (.func 181) [] []
 | .base=>.func (.func 206) [] []
 | .term=>.func (.func 185) [] []
 | .arg=>.func (.func 207) [] []
 | .kind c=>.func (.func 242) [] [.cN [.int .u8 c]]
theorem aaB {c:iK} {k:Int} {U:St} {K':AV->St->Prop} {Kp:AV->St->Prop} (h:K' (.bool (c.is k)) U):(iN K.P (zd c) [.int .u8 k]).wp K U K' Kp:=by
 cases c with
 | item=>simp only [zd,iN,show eX K.P 179=true by kernel_rfl,if_true,lF,jN,gy]; exact (Dk k).go h
 | type=>simp only [zd,iN,show eX K.P 181=true by kernel_rfl,if_true,lF,jN,gy]; exact (Dm k).go h
 | base=>simp only [zd,iN,show eX K.P 206=true by kernel_rfl,if_true,lF,jN,gy]; exact (Dj k).go h
 | term=>simp only [zd,iN,show eX K.P 185=true by kernel_rfl,if_true,lF,jN,gy]; exact (x8 k).go h
 | arg=>simp only [zd,iN,show eX K.P 207=true by kernel_rfl,if_true,lF,jN,gy]; exact (P3 k).go h
 | kind c=>simp only [zd,iN,show eX K.P 242=true by kernel_rfl,if_true,lF,jN,ix]; exact (Nk k c).go h
def nw (s:lh):List AV:=[zd s.c,.int .i64 (s.least:Nat),.int .i64 (s.nV:Nat)]
def oY (l:List lh):List AV:=l.flatMap nw
def mr (l:List lh):AV:=if l=[] then .ah else .vec l.length .full (oY l)
def oJ (f:gd):List AV:=[.bool f.text,.bool f.n,.bool f.m,mr f.kids]
theorem Ji (L:List lh):(oY L).length=3 * L.length:=by
 induction L with
 | nil=>rfl
 | cons t L ih =>
   have:(oY (t::L)).length=3+(oY L).length:=by simp [oY,nw]; omega
   rw [this,ih,gU]; omega
theorem Dy (L:List lh) (i:Nat):(oY L).drop (i * 3)=oY (L.drop i):=by
 induction L generalizing i with
 | nil=>simp [oY]
 | cons t L ih =>
   cases i with
   | zero=>simp
   | succ i =>
     rw [Nat.add_mul,show i * 3+1 * 3=3+i * 3 by omega,<- List.drop_drop,List.drop_succ_cons,<- ih]
     rfl
theorem Vj {L:List lh} {i:Nat} {t:lh} (h:L[i]?=some t):∃ r,(oY L).drop (i * 3)=nw t++r:=by
 rw [Dy,gT (dx.1 h).1]
 refine ⟨oY (L.drop (i+1)),?_⟩
 have:=(dx.1 h).2
 simp [oY,this]
theorem Vk (l:List lh):eJ (mr l) l.length (oY l):=by
 unfold mr
 split
 . rename_i h; subst h; exact .inl ⟨rfl,rfl,rfl⟩
 . exact .inr ⟨_,rfl⟩
theorem XA {v:AV} {ss:List lh} {s:lh} {i:Nat} {U:St} {K':AV->St->Prop} {Kp:AV->St->Prop} (hv:eJ v ss.length (oY ss)) (hs:ss[i]?=some s) (hk:K' (.agg (nw s)) U) :
 (aL (some (200,3)) none v (.int .i64 (i:Nat))).wp K U (fun p U=>(aj (some (true,3)) p U).wp K U K' Kp) Kp:=by
 have aQ:=(dx.1 hs).1
 obtain ⟨c,rfl,tw⟩:=hv.at (sz:=3) (e:=200) aQ
 obtain ⟨r,hr⟩:=Vj hs
 rw [tw,hr]
 refine ⟨by omega,?_⟩
 rw [al,tZ]
 refine ⟨by simp [nw],?_⟩
 have:(nw s++r).take 3=nw s:=by simp [nw]
 rw [this]; exact hk
theorem FM {k:Int} {z:AV}:∀ (ks:List Int) (vs:List AV),(∀ j ∈ ks,j ≠ k)->nT .i (.int .u8 k) z true (ks.map (.int .u8)) vs=.val (.aH [z,.bool false])
 | [],vs,_=>by cases vs <;> rfl
 | j::ks,[],_=>rfl
 | j::ks,v::vs,h=>by
   have hj:¬ k=j:=fun e=>h j (by simp) e.symm
   have:iw .i (.int .u8 k) (.int .u8 j)=some false:=by simp [iw,hj]
   simp only [eC,nT,this,bU,if_false]
   exact FM ks vs fun x hx=>h x (by simp [hx])
def JE:AV:=.agg [AV.bool false,AV.bool false,AV.bool false,AV.ah]
def PU (n:Nat):Bool:=match p4 with
 | .fY ks vs=>(match nT .i (.int .u8 n) JE true ks vs with
   | .val v=>jJ v (match bC n with | some f=>.aH [.agg (oJ f),.bool true] | none=>.aH [JE,.bool false])
   | _=>false)
 | _=>false
theorem Nf:∀ n:Fin 38,PU n.val=true:=by decide +kernel
end Go.Rip
namespace Go.Rip
open Go.Proofs Go.RowKit
theorem J4 (ks:List Int):(oL ks).length=ks.length:=by simp [oL]
theorem adp {U:St} {v:AV} {ks:List Int} {i e:Nat} {k:Int} {kq:AV->AV->Prop} (hv:eJ v ks.length (oL ks)) (hk:ks[i]?=some k) (h:∀ L,kq (.cN L) (.int .u8 k)) :
 ao K (.bool true) (aL (some (e,1)) none v (.int .i64 (i:Nat))) fun p=>ao K (.bool true) (aj (some (false,1)) p U) (kq p):=by
 have aQ:=(dx.1 hk).1
 obtain ⟨c,rfl,tw⟩:=hv.at (sz:=1) (e:=e) aQ
 obtain ⟨r,hr⟩:=X8 hk
 rw [tw,Nat.mul_one,hr]
 exact uC ⟨by omega,uC (h _)⟩
theorem abg {v:AV} {ks:List Int} {i:Nat} {e:Nat} {U:St} {K':AV->St->Prop} {Kp:AV->St->Prop} (hv:eJ v ks.length (oL ks)) (hi:i <= ks.length) (hk:∀ v',eJ v' (ks.drop i).length (oL (ks.drop i))->K' v' U) :
 (fG false (some (e,1)) v (some (.int .i64 (i:Nat))) none).wp K U K' Kp:=by
 rcases hv with ⟨h0,h1,rfl⟩ | ⟨c,rfl⟩
 . have iC:ks=[]:=sv.1 h0
   subst iC
   have zq:i=0:=by simpa using hi
   subst zq
   simp only [fG,eh,wp_cond,al]
   refine ⟨by simp,hk _ (.inl ⟨rfl,rfl,rfl⟩)⟩
 . rw [Ac,jX,nL]
   refine ⟨by omega,?_⟩
   refine hk _ (.inr ⟨xn c none,?_⟩)
   have:ks.length - i=(ks.drop i).length:=by rw [List.length_drop]
   simp only [iZ,Nat.mul_one,this]
   rw [qC (by rw [J4]; exact cX _)]
   congr 1
   simp [oL,List.map_drop]
theorem YO {ss:List lh} {i:Nat} {U:St} {K':AV->St->Prop} {Kp:AV->St->Prop} (hi:i < ss.length) (hk:∀ v',eJ v' (ss.drop (i+1)).length (oY (ss.drop (i+1)))->K' v' U) :
 (fG false (some (200,3)) (mr ss) (some (.int .i64 ((i:Nat)+1))) none).wp K U K' Kp:=by
 have cn:ss ≠ []:=by intro e; subst e; simp at hi
 unfold mr
 rw [if_neg cn,Ac,jX,nL]
 refine ⟨by omega,?_⟩
 refine hk _ (.inr ⟨xn .full none,?_⟩)
 have:(ss.length:Int).toNat - ((i:Int)+1).toNat=(ss.drop (i+1)).length:=by rw [List.length_drop]; omega
 rw [this]
 congr 1
 rw [iZ,qC (by rw [Ji]; omega),show ((i:Int)+1).toNat=i+1 by omega,Dy]
def vb (ks:List Int) (s:lh) (rest:Nat):Nat:=((ks.take (min (ks.length - rest) s.nV)).takeWhile s.c.is).length
theorem OE (ks:List Int) (s:lh) (ss:List lh):dQ ks (s::ss)=if vb ks s (ss.map (·.least)).sum < s.least then false else dQ (ks.drop (vb ks s (ss.map (·.least)).sum)) ss:=by
 rw [dQ]; rfl
theorem EB {p:Int->Bool}:∀ {l:List Int} {i:Nat},(∀ j (h:j < l.length),j < i->p l[j]=true)->i <= l.length->(i=l.length\/∃ h:i < l.length,p l[i]=false)->(l.takeWhile p).length=i
 | [],i,_,hi,_=>by simp at hi; simp [hi]
 | a::l,0,_,_,he=>by
   rcases he with he | ⟨h,he⟩
   . simp at he
   . rw [oN]; simp at he; simp [he]
 | a::l,i+1,cm,hi,he=>by
   have ha:p a=true:=cm 0 (by simp) (by omega)
   rw [oN,if_pos ha,gU]
   congr 1
   refine EB (fun j h hj=>?_) (by simpa using hi) ?_
   . have:=cm (j+1) (by simp; omega) (by omega)
     simpa using this
   . rcases he with he | ⟨h,he⟩
     . left; simpa using he
     . right; exact ⟨by simpa using h,by simpa using he⟩
theorem aaG {U:St} {R:cR->St->Prop} {v:AV} {ks:List Int} {ss:List lh} (hv:eJ v ks.length (oL ks)) (hl:ks.length <= 100000) (tB:ss.length <= 100) (p5:∀ s ∈ ss,s.least <= 1000/\s.nV <= 1000)
 (h:∀ ad,cW U ad->R (.ret (.bool (dQ ks ss))) ad):ae K 209 [v,mr ss] U R:=by
 refine RY ?_
 unfold RX
 have hss:=Vk ss
 have hlen:cw (some false) (mr ss)=.val (.int .i64 ss.length):=hss.len
 rw [hlen,al]
 refine ⟨fun m v0 v1 v11 v12 ck ad=>∃ (i:Nat) (ks':List Int),m=ss.length - i/\v1=mr ss/\v11=mr ss/\v12=.int .i64 ss.length/\ck=.int .i64 (i:Nat)/\i <= ss.length/\eJ v0 ks'.length (oL ks')/\ks'.length <= ks.length/\dQ ks' (ss.drop i)=dQ ks ss/\cW U ad,
  ⟨_,0,ks,rfl,rfl,rfl,rfl,rfl,by omega,hv,cX _,rfl,cW.refl _⟩,?_⟩
 rintro m v0 v1 v11 v12 ck aR ⟨i,ks',rfl,rfl,rfl,rfl,rfl,hi,Wo,sU,pP,e1⟩
 refine JB (fun aQ=>?_) fun kn=>?_
 . have aQ:i < ss.length:=by omega
   obtain ⟨s,hs⟩:∃ s,ss[i]?=some s:=⟨ss[i],by simp [aQ]⟩
   have K3:=p5 s (gh hs)
   have My:ss.drop i=s::ss.drop (i+1):=by
    rw [gT aQ]
    have:=(dx.1 hs).2
    rw [this]
   refine XA hss hs ?_
   rw [cz]
   intro b6 rU
   have m6:(aR.new b6 (.box [AV.dV,AV.int .i64 0,AV.int .i64 0])).box b6=some [AV.dV,AV.int .i64 0,AV.int .i64 0]:=aG
   have e2:=e1.new rU (x:=.box [AV.dV,AV.int .i64 0,AV.int .i64 0])
   have f6:=e1.fresh rU.1
   generalize aR.new b6 (.box [AV.dV,AV.int .i64 0,AV.int .i64 0])=a7 at *
   rw [cI m6]
   refine ⟨⟨rfl,rfl,by simp⟩,?_⟩
   have g6:(a7.set b6 (.box (ay [AV.dV,AV.int .i64 0,AV.int .i64 0] 0 (au (.agg (nw s)))))).box b6=some (nw s):=by rw [aV]; rfl
   have e3:=e2.set f6 (x:=.box (ay [AV.dV,AV.int .i64 0,AV.int .i64 0] 0 (au (.agg (nw s)))))
   generalize a7.set b6 (.box (ay [AV.dV,AV.int .i64 0,AV.int .i64 0] 0 (au (.agg (nw s)))))=bO at *
   rw [dN]
   refine ⟨bI (by omega) (by omega),?_⟩
   refine YO aQ fun v21 h21=>?_
   have aa8:cw (some false) v21=.val (.int .i64 (ss.drop (i+1)).length):=h21.len
   rw [aa8,al]
   generalize ME:ss.drop (i+1)=rest at *
   have hrl:rest.length <= 100:=by rw [<- ME,List.length_drop]; omega
   have hrm:∀ s ∈ rest,s.least <= 1000:=fun s hs=>(p5 s (by rw [<- ME] at hs; exact List.mem_of_mem_drop hs)).1
   have Ua:∀ n,((rest.take n).map (·.least)).sum <= 1000 * n:=by
    have:∀ (l:List lh) (n:Nat),(∀ s ∈ l,s.least <= 1000)->((l.take n).map (·.least)).sum <= 1000 * n:=by
     intro l
     induction l with
     | nil=>intro n _; simp
     | cons a l ih =>
       intro n hm
       cases n with
       | zero=>simp
       | succ n =>
         have:=ih n fun s hs=>hm s (by simp [hs])
         have:=hm a (by simp)
         simp only [List.take_succ_cons,eC,List.sum_cons]; omega
    exact fun n=>this rest n hrm
   refine ⟨fun m w0 w1 w6 w7 SP SQ Gl w21 w22 w23 ad=>∃ j:Nat,m=rest.length - j/\w0=v0/\w1=mr ss/\w6=.box b6 0/\w7=.int .i64 (((rest.take j).map (·.least)).sum:Nat)/\SP=mr ss/\SQ=.int .i64 ss.length/\Gl=.int .i64 (i:Nat)/\w21=v21/\w22=.int .i64 rest.length/\w23=.int .i64 (j:Nat)/\j <= rest.length/\ad.box b6=some (nw s)/\cW U ad,
    ⟨_,0,rfl,rfl,rfl,rfl,rfl,rfl,rfl,rfl,rfl,rfl,rfl,by omega,g6,e3⟩,?_⟩
   clear e2 e3 g6 m6 rU
   rintro m w0 w1 w6 w7 SP SQ Gl w21 w22 w23 cG ⟨j,rfl,rfl,rfl,rfl,rfl,rfl,rfl,rfl,rfl,rfl,rfl,hj,g6,e4⟩
   refine JB (fun HS=>?_) fun agQ=>?_
   . have HS:j < rest.length:=by omega
     obtain ⟨s2,rW⟩:∃ s2,rest[j]?=some s2:=⟨rest[j],by simp [HS]⟩
     refine XA h21 rW ?_
     rw [cz]
     intro b9 HI
     have m9:(cG.new b9 (.box [AV.dV,AV.int .i64 0,AV.int .i64 0])).box b9=some [AV.dV,AV.int .i64 0,AV.int .i64 0]:=aG
     have e5:=e4.new HI (x:=.box [AV.dV,AV.int .i64 0,AV.int .i64 0])
     have f9:=e4.fresh HI.1
     have n9:=HI.bP g6
     have g6':=(bg HI (x:=.box [AV.dV,AV.int .i64 0,AV.int .i64 0])).aX g6
     generalize cG.new b9 (.box [AV.dV,AV.int .i64 0,AV.int .i64 0])=di at *
     rw [cI m9]
     refine ⟨⟨rfl,rfl,by simp⟩,?_⟩
     have g9:(di.set b9 (.box (ay [AV.dV,AV.int .i64 0,AV.int .i64 0] 0 (au (.agg (nw s2)))))).box b9=some (nw s2):=by rw [aV]; rfl
     have aeW:(di.set b9 (.box (ay [AV.dV,AV.int .i64 0,AV.int .i64 0] 0 (au (.agg (nw s2)))))).box b6=some (nw s):=by rw [aO n9]; exact g6'
     have e6:=e5.set f9 (x:=.box (ay [AV.dV,AV.int .i64 0,AV.int .i64 0] 0 (au (.agg (nw s2)))))
     generalize di.set b9 (.box (ay [AV.dV,AV.int .i64 0,AV.int .i64 0] 0 (au (.agg (nw s2)))))=mK at *
     simp only [aZ,al,cU]
     refine dY g9 rfl ?_
     have gQ:=Ua j
     have gg:=hrm s2 (gh rW)
     rw [dN]
     refine ⟨bI (by omega) (by omega),?_⟩
     rw [dN]
     refine ⟨bI (by omega) (by omega),rest.length - (j+1),by omega,j+1,rfl,rfl,rfl,rfl,?_,rfl,rfl,rfl,rfl,rfl,by simp,HS,aeW,e6⟩
     have:rest.take (j+1)=rest.take j++[s2]:=by rw [sw,rW]; rfl
     rw [this]; simp
   . have hj:j=rest.length:=by omega
     subst hj
     rw [tn]
     have gQ:=Ua rest.length
     rw [tn] at gQ
     generalize afu:(rest.map (·.least)).sum=sm at *
     have adA:dQ ks' (s::rest)=if vb ks' s sm < s.least then false else dQ (ks'.drop (vb ks' s sm)) rest:=by rw [OE,afu]
     rw [My,adA] at pP
     refine ⟨fun m u0 w1 w6 w7 Gk SP SQ Gl ad=>∃ q:Nat,m=ks'.length - q/\u0=w0/\w1=mr ss/\w6=.box b6 0/\w7=.int .i64 (sm:Nat)/\Gk=.int .i64 (q:Nat)/\SP=mr ss/\SQ=.int .i64 ss.length/\Gl=.int .i64 (i:Nat)/\q <= min (ks'.length - sm) s.nV/\(∀ (p:Nat) (hp:p < ks'.length),p < q->s.c.is ks'[p]=true)/\ad.box b6=some (nw s)/\cW U ad,
      ⟨_,0,rfl,rfl,rfl,rfl,rfl,rfl,rfl,rfl,rfl,by omega,fun p hp h=>by omega,g6,e4⟩,?_⟩
     clear g6 e4
     rintro m u0 w1 w6 w7 Gk SP SQ Gl di ⟨q,rfl,rfl,rfl,rfl,rfl,rfl,rfl,rfl,rfl,hq,cm,g6,e5⟩
     intro jj Bi
     have MC:cw (some false) u0=.val (.int .i64 ks'.length):=Wo.len
     have stop:vb ks' s sm=q->jj u0 (mr ss) (.box b6 0) (.int .i64 (sm:Nat)) (.int .i64 (q:Nat)) (mr ss) (.int .i64 ss.length) (.int .i64 (i:Nat)) (.bool false) di:=fun hmq=>by
      refine Bi _ _ _ _ _ _ _ _ _ _ ?_
      refine dC ?_
      simp only [aZ,al,cU]
      refine dY g6 rfl ?_
      rw [hmq] at pP
      refine JB (fun hml=>?_) fun hml=>?_
      . rw [if_pos (by omega)] at pP
        refine ak.mk ?_
        rw [pP]; exact h _ e5
      . rw [if_neg (by omega)] at pP
        refine abg Wo (by omega) fun nK h61=>?_
        rw [dN]
        refine ⟨bI (by omega) (by omega),ss.length - (i+1),by omega,i+1,ks'.drop q,rfl,rfl,rfl,rfl,by simp,aQ,h61,by simp; omega,?_,e5⟩
        rw [ME]; exact pP
     have go:q < min (ks'.length - sm) s.nV->(∀ k,ks'[q]?=some k->s.c.is k=true)->jj u0 (mr ss) (.box b6 0) (.int .i64 (sm:Nat)) (.int .i64 (q:Nat)) (mr ss) (.int .i64 ss.length) (.int .i64 (i:Nat)) (.bool true) di:=fun hql hqs=>by
      refine Bi _ _ _ _ _ _ _ _ _ _ ?_
      refine dP ?_
      rw [dN]
      refine ⟨bI (by omega) (by omega),ks'.length - (q+1),by omega,q+1,rfl,rfl,rfl,rfl,rfl,by simp,rfl,rfl,rfl,by omega,fun p hp Wh=>?_,g6,e5⟩
      rcases jL p q with aQ | kn
      . exact cm p hp aQ
      . have:p=q:=by omega
        subst this; exact hqs _ (by simp [hp])
     have nV:q=min (ks'.length - sm) s.nV->vb ks' s sm=q:=fun hqe=>by
      unfold vb
      rw [<- hqe]
      refine EB (fun p hp Wh=>?_) (by simp; omega) (.inl (by simp; omega))
      have:=cm p (by simp at hp; omega) Wh
      simpa using this
     simp only [MC,aJ,kT,gL,mE]
     refine ⟨bI (by omega) (by omega),?_⟩
     rw [cb,aJ]
     by_cases h1:(q:Int) < (ks'.length:Int) - (sm:Nat)
     . simp only [h1,du,bf,gR]
       refine nO (aaO (aaP g6 rfl ?_))
       rw [cb]
       refine nO ?_
       simp only [aM,if_true,aJ]
       by_cases h2:(q:Int) < (s.nV:Nat)
       . have hqk:q < ks'.length:=by omega
         have hx:ks'[q]?=some ks'[q]:=by simp [hqk]
         simp only [h2,du,bf,gR]
         refine aaO (aaP g6 rfl (nO (nO (adp Wo hx fun L=>?_))))
         refine dP ?_
         refine aaB ⟨fun b hb=>rfl,?_⟩
         simp only [aM,if_true,aJ]
         cases hc:s.c.is ks'[q] with
         | true=>exact go (by omega) fun k hk=>by rw [hx] at hk; cases hk; exact hc
         | false =>
           refine stop ?_
           unfold vb
           refine EB (fun p hp Wh=>?_) (by simp; omega) (.inr ⟨by simp; omega,by simpa using hc⟩)
           have:=cm p (by simp at hp; omega) Wh
           simpa using this
       . simp only [h2,eB,bf,show (false == true)=false from rfl,aN,cF,aM,bU,if_false,aJ]
         exact dC (stop (nV (by omega)))
     . simp only [h1,eB,bf,show (false == true)=false from rfl,aN,cF,aM,bU,if_false,aJ]
       exact dC (stop (nV (by omega)))
 . have hi:i=ss.length:=by omega
   subst hi
   rw [List.drop_length] at pP
   have MC:cw (some false) v0=.val (.int .i64 ks'.length):=Wo.len
   rw [MC,al]
   refine AR (ak.eq (h _ e1) ?_)
   rw [<- pP,dQ,AV.bool.injEq,pU,List.isEmpty_iff,dS]
   constructor
   . intro h; exact sv.1 (by omega)
   . rintro rfl; rfl
end Go.Rip
namespace Go.Rip
open Go.Proofs Go.RowKit
def Ir (l:List Nd) (en:Int):Nat->Nat->Nat
 | 0,p=>p
 | f+1,p=>match l[p]? with
   | some x=>if (p:Int) < en/\0 < x.size then Ir l en f (p+x.size.toNat) else p
   | none=>p
def behind (l:List Nd) (p:Nat) (ks:List Nat):Nat:=ks.foldl (fun _ k=>k+gi l k) p
theorem AX (l:List Nd) (p:Nat) (ks:List Nat) (k:Nat):behind l p (ks++[k])=k+gi l k:=by simp [behind]
theorem FB (l:List Nd) (en:Int):∀ (f p:Nat),behind l p (fj l en f p)=Ir l en f p
 | 0,p=>rfl
 | f+1,p=>by
   simp only [fj,Ir]
   cases hx:l[p]? with
   | none=>rfl
   | some x =>
     simp only
     by_cases h:(p:Int) < en/\0 < x.size
     . rw [if_pos h,if_pos h,<- FB l en f]
       have:gi l p=x.size.toNat:=by unfold gi; rw [hx]; rfl
       simp only [behind,List.foldl_cons,this]
     . rw [if_neg h,if_neg h]; rfl
theorem FC {l:List Nd} (hs:Cv l) {en:Nat} (hen:en <= l.length):∀ (f p:Nat),Ir l en f p=sP l en f p
 | 0,p=>rfl
 | f+1,p=>by
   simp only [Ir]
   by_cases hp:p < en
   . have aQ:p < l.length:=by omega
     have hx:l[p]?=some l[p]:=by simp [aQ]
     have:=hs.2.2 p _ hx
     rw [yu hx hp,hx]
     simp only
     rw [if_pos ⟨by omega,by omega⟩]
     exact FC hs hen f _
   . rw [yw hp]
     split
     . rw [if_neg (fun h=>hp (by omega))]
     . rfl
def iU (l:List Nd) (ks:List Nat):List Int:=ks.map fun k=>((l[k]?.map Nd.kind).getD 0)
def jV (l:List Nd) (n:Nat) (x:Nd):Bool:=match bC x.kind with
 | none=>false
 | some f=>decide (1 <= x.size/\x.size <= (l.length:Int) - n) && (ee x f && ((fj l ((n:Int)+x.size) l.length (n+1)).all (fun k=>decide (1 <= gi l k/\(k:Int)+gi l k <= n+x.size)) &&
    (decide (((behind l (n+1) (fj l ((n:Int)+x.size) l.length (n+1)):Nat):Int)=n+x.size) && dQ (iU l (fj l ((n:Int)+x.size) l.length (n+1))) f.kids)))
theorem FP {l:List Nd} {n:Nat} {s:Tre} {x:Nd} (hs:gm l n s) (hx:l[n]?=some x):jV l n x=xV x (s.kids.map Tre.kind):=by
 obtain ⟨y,hy,_,eP,_⟩:=hs.qG
 rw [hx] at hy; cases hy
 have hle:=hs.le
 have rq:=s.ef
 have hk:fj l ((n:Int)+x.size) l.length (n+1)=eu (n+1) s.kids:=by rw [eP]; exact xM hs
 have Bg:=nN s
 have fT:∀ (ts:List Tre) (p:Nat),mR l p ts->(eu p ts).all (fun k=>decide (1 <= gi l k/\(k:Int)+gi l k <= (p:Int)+(Tre.bG ts).length))=true/\behind l p (eu p ts)=p+(Tre.bG ts).length/\iU l (eu p ts)=ts.map Tre.kind:=by
  intro ts
  induction ts with
  | nil=>intro p _; simp [eu,behind,iU]
  | cons t ts ih =>
    intro p D7
    obtain ⟨z,hz,Pf,wI,_⟩:=D7.head.qG
    have htp:=t.ef
    have K2:gi l p=t.flat.length:=by unfold gi; rw [hz]; simp; omega
    obtain ⟨i1,i2,i3⟩:=ih _ D7.tail
    refine ⟨?_,?_,?_⟩
    . simp only [eu,List.all_cons,bX,dS,K2,Tre.cS,df]
      refine ⟨⟨by omega,by omega⟩,?_⟩
      rw [fl] at i1 ⊢
      intro k hk
      have:=i1 k hk
      simp only [dS] at this ⊢
      omega
    . simp only [eu,behind,List.foldl_cons,K2]
      have:behind l (p+t.flat.length) (eu (p+t.flat.length) ts)=p+(Tre.bG (t::ts)).length:=by rw [i2]; simp; omega
      exact this
    . simp only [eu,iU,eC,hz,Option.map_some,Option.getD_some,Pf]
      congr 1
 obtain ⟨h1,h2,h3⟩:=fT s.kids (n+1) hs.kids
 unfold jV xV TF
 cases hf:bC x.kind with
 | none=>simp
 | some f =>
   simp only
   rw [hk,EZ hf,h2,h3]
   have e1:decide (1 <= x.size/\x.size <= (l.length:Int) - n)=true:=by rw [dS]; omega
   have e2:(eu (n+1) s.kids).all (fun k=>decide (1 <= gi l k/\(k:Int)+gi l k <= n+x.size))=true:=by
    rw [fl] at h1 ⊢
    intro k hk
    have:=h1 k hk
    simp only [dS] at this ⊢
    omega
   have e3:decide (((n+1+(Tre.bG s.kids).length:Nat):Int)=n+x.size)=true:=by rw [dS]; omega
   rw [e1,e2,e3]; simp
theorem BA {l:List Nd} (cn:l ≠ []) (h0:lK l=l.length) (h:∀ n x,l[n]?=some x->jV l n x=true):Gv l:=by
 have zw:Cv l:=by
  refine ⟨cn,h0,fun i x hx=>?_⟩
  have:=h i x hx
  unfold jV at this
  split at this
  . cases this
  . simp only [bX,dS] at this
    exact this.1
 refine ⟨zw,fun i x hx=>?_⟩
 have hq:=h i x hx
 have hsx:=zw.2.2 i x hx
 unfold jV at hq
 split at hq
 . cases hq
 . simp only [bX,dS] at hq
   have hb:=hq.2.2.2.1
   rw [FB] at hb
   have e:((i:Int)+x.size)=((i+x.size.toNat:Nat):Int):=by omega
   rw [e] at hb
   rw [<- FC zw (by omega)]
   exact_mod_cast hb
theorem F2 {l:List Nd} {x0:Nd} (h0:l[0]?=some x0):(x0.kind=1/\x0.size=l.length/\∀ n x,l[n]?=some x->jV l n x=true) ↔ ∃ t:Tre,l=t.flat/\t.kind=1/\t.ok=true:=by
 constructor
 . rintro ⟨h1,h2,h3⟩
   have cn:l ≠ []:=by intro e; subst e; simp at h0
   have wH:lK l=l.length:=by
    cases l with
    | nil=>exact absurd rfl cn
    | cons y r=>simp at h0; subst h0; exact h2
   obtain ⟨t,rfl⟩:=(F9 l).1 (BA cn wH h3)
   obtain ⟨y,hy,hk,_⟩:=(gm.whole t).qG
   rw [h0] at hy; cases hy
   refine ⟨t,rfl,by rw [<- hk,h1],?_⟩
   have:=IM (l:=t.flat) _ [t] 0 (cX _) ⟨[],by simp⟩ (fun j s x _ hj hs hx=>by rw [<- FP hs hx]; exact h3 j x hx)
   simpa using this
 . rintro ⟨t,rfl,hk,ho⟩
   obtain ⟨y,hy,hyk,hys,_⟩:=(gm.whole t).qG
   rw [h0] at hy; cases hy
   refine ⟨by rw [hyk,hk],hys,fun n x hx=>?_⟩
   obtain ⟨⟨s,_,hs,_⟩,_⟩:=place t (dx.1 hx).1
   rw [FP hs hx]
   exact Uv (abT ho hs) hs hx
theorem tL {l:List Nd} (h9:¬ 900 < l.length) (h:¬ ∃ t:Tre,l=t.flat/\t.kind=1/\t.ok=true):gx l=4:=by
 unfold gx
 rw [if_neg h9]
 cases ht:Ck l with
 | none=>rfl
 | some t =>
   have:=SL ht
   subst this
   show BU t=4
   unfold BU
   rw [if_pos]
   by_cases hk:t.kind=1
   . right
     cases ho:t.ok with
     | false=>rfl
     | true=>exact absurd ⟨t,rfl,hk,ho⟩ h
   . exact .inl hk
theorem Kz {c:UInt8} (h:dm c=true):lH c=true/\c.toNat ≠ 32/\c.toNat ≠ 10/\c.toNat ≠ 126:=by
 simp only [dm,gJ,lI,GG,jM,dS] at h
 simp only [lH,dS]
 omega
theorem xU {s:aK} (h:kI s=true):jY s=.ok [⟨1,s,0⟩]:=by
 have hlen:=Ka h
 unfold kI at h
 rw [dS] at h
 rcases qX h with ⟨_,_,_,⟨c,r,e,hc⟩,cm⟩ | h' | h' | h'
 . have TU:te s=(0,0):=by
    unfold te
    rw [if_neg (by omega)]
    have:s.findIdx? (fun c=>!lH c)=none:=by
     rw [List.findIdx?_eq_none_iff]
     intro x hx
     rw [fl] at cm
     have:=Kz (cm x hx)
     simp [this.1]
    rw [this]
   unfold jY
   rw [TU]
   simp only [ne_eq,not_true,if_false]
   obtain ⟨n,hn⟩:∃ n,s.length=n+1:=⟨r.length,by rw [e]; simp⟩
   rw [hn,fL]
   subst e
   have agP:=Kz (show dm c=true by rw [fl] at cm; exact cm c (by simp))
   simp only [eD]
   rw [if_neg (by omega),if_neg (by omega),h]
   simp only [ne_eq,not_true,if_false,lB,show ¬ ((0:Nat)=900) by omega,cU,jN]
   have Fh:r.length=n:=by simpa using hn
   cases n with
   | zero=>simp only [fL]
   | succ n =>
     rw [fL,List.drop_of_length_le (by simp)]
 . omega
 . omega
 . omega
where
 Ka {s:aK} (h:kI s=true):s.length <= 12:=by
  unfold kI at h
  rw [dS] at h
  rcases qX h with h | h | h | h
  . exact h.2.2.1
  . omega
  . omega
  . omega
theorem Nl (s:aK) (hs:s.length <= 3000):Pure K 208 [.str s] (.bool (kI s)):=by
 intro U R hR
 refine RW ?_
 unfold RV
 refine (vU s hs).go ?_
 cases hl:jY s with
 | bad p e =>
   have hn:kI s=false:=by
    cases h:kI s with
    | false=>rfl
    | true=>rw [xU h] at hl; cases hl
   rw [hn] at hR
   have he:e ≠ 0:=by
    unfold jY at hl
    split at hl
    split at hl
    . rename_i he; cases hl; exact he
    . exact u6 _ _ _ _ hl
   simp only [ta,bu,List.drop,bA,br,al,he,eB,bf,show (false == true)=false from rfl,aN,cF,aM,bU,if_false]
   exact ak.mk hR
 | ok L =>
   simp only [ta,bu,List.drop,bA,br,al,du,bf,gR]
   have tC:=Vs L
   have hlen:cw (some false) (sD L)=.val (.int .i64 L.length):=tC.len
   refine nO ?_
   rw [hlen]
   refine nO ?_
   rw [br]
   refine nO ?_
   simp only [aM,if_true,al]
   by_cases h1:L.length=1
   . match L,h1 with
     | [t],_ =>
       have ru:mx t:=(AD hl).1 t (by simp)
       have tok:∀ (o:Nat) (c:AV) (kq:AV->Prop),(qf t)[o]?=some c->kq c->ao K (.bool true) (aL (some (51,3)) none (sD [t]) (.int .i64 0)) fun a=>ao K (.bool true) (af (some o) a) fun b=>ao K (.bool true) (aj (some (false,1)) b U) kq:=fun o c kq hc hk=>by
        obtain ⟨r',yK⟩:=Ho hc []
        refine uC ⟨by simp,?_⟩
        refine uC ?_
        simp only [Int.toNat_zero,Nat.zero_mul,eD,dJ,aJ]
        refine uC ?_
        rw [sZ,show jB [t]=qf t++[] from rfl,yK,jF]; exact hk
       simp only [gU,lB,cU,show ((1:Nat):Int)=1 from rfl,du,bf,gR]
       refine nO (tok 0 (.int .u8 t.k) _ rfl ?_)
       rw [br]
       refine nO ?_
       simp only [aM,if_true,al]
       by_cases hk:(t.k:Int)=1
       . simp only [hk,du,bf,gR]
         refine nO (tok 1 (.str t.s) _ rfl (nO ?_))
         rw [mz]
         refine nO ?_
         simp only [aM,if_true,al]
         refine ak.eq hR ?_
         rw [AV.bool.injEq,pU,dS]
         constructor
         . intro h
           have:=ru.2
           rw [show t.k=1 by omega] at this
           rw [<- h]; unfold kI; rw [this]; simp
         . intro h
           rw [xU h] at hl
           cases hl; rfl
       . simp only [hk,eB,bf,show (false == true)=false from rfl,aN,cF,aM,bU,if_false,al]
         refine ak.eq hR ?_
         cases h:kI s with
         | false=>rfl
         | true=>rw [xU h] at hl; cases hl; exact absurd rfl hk
   . have ug:¬ (L.length:Int)=1:=by omega
     simp only [ug,eB,bf,show (false == true)=false from rfl,aN,cF,aM,bU,if_false,al]
     refine ak.eq hR ?_
     cases h:kI s with
     | false=>rfl
     | true=>rw [xU h] at hl; cases hl; exact absurd rfl h1
where
 Vs (l:List Tk):eJ (sD l) l.length (jB l):=by
  unfold sD
  split
  . rename_i h; subst h; exact .inl ⟨rfl,rfl,rfl⟩
  . exact .inr ⟨_,rfl⟩
 u6:∀ (f:Nat) (s:aK) (p:Nat) (l:List Tk) {q:Nat} {e:Int},fL f s p l=.bad q e->e ≠ 0
  | 0,s,p,l,q,e,h=>by simp [fL] at h
  | f+1,s,p,l,q,e,h=>by
    simp only [fL] at h
    split at h
    . cases h
    . split at h
      . exact u6 f s _ l h
      . split at h
        . exact u6 f s _ l h
        . split at h
          . rename_i he; cases h; exact he
          . split at h
            . cases h; omega
            . exact u6 f s _ _ h
end Go.Rip
