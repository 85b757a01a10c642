/- Lemmas for the proof: no conditions. -/
import Derived.Test.YtnfpmiiopiinbaaGreatDoorRipZz
import Derived.Test.YtnfpmiiopiinbaaGreatDoorRipS
import Derived.Test.YtnfpmiiopiinbaaGreatDoorRipH
import Derived.Test.YtnfpmiiopiinbaaGreatDoorRipG
import Derived.Test.YtnfpmiiopiinbaaGreatDoorRipP
set_option linter.unusedVariables false
set_option linter.unusedSimpArgs false
set_option linter.loopingSimpArgs false
namespace Go.Rip
open Go.Proofs Go.RowKit
theorem Dw (k:Int):Pure K 179 [.int .u8 k] (.bool (iY k)):=by
 intro U R hR
 refine Se ?_
 unfold Sd
 rw [iq,aj]
 refine Wi (fun _=>lq ..) (al.eq hR ?_)
 simp only [iY,AV.bool.injEq]; grind
theorem Dv (k:Int):Pure K 206 [.int .u8 k] (.bool (oM k)):=by
 intro U R hR
 refine Su ?_
 unfold Ss
 rw [bu,aj]
 refine M0 (fun _=>bu ..) (al.eq hR ?_)
 simp only [oM,AV.bool.injEq]; grind
theorem Dz (k:Int):Pure K 181 [.int .u8 k] (.bool (pE k)):=by
 intro U R hR
 refine Si ?_
 unfold Sh
 refine (Dv k).go ?_
 refine M0 (fun _=>bu ..) (al.eq hR ?_)
 simp only [oM,pE,AV.bool.injEq]; grind
theorem yj (k:Int):Pure K 185 [.int .u8 k] (.bool (cj k)):=by
 intro U R hR
 refine Sm ?_
 unfold Sj
 rw [iq,aj]
 refine Wi (fun _=>lq ..) (al.eq hR ?_)
 simp only [cj,AV.bool.injEq]; grind
theorem QF (k:Int):Pure K 207 [.int .u8 k] (.bool (nz k)):=by
 intro U R hR
 refine Sw ?_
 unfold Sv
 refine (yj k).go ?_
 refine M0 (fun _=>bu ..) ?_
 refine M0 (fun _=>bu ..) (al.eq hR ?_)
 simp only [cj,nz,AV.bool.injEq]; grind
theorem N0 (k c:Int):Pure K 242 [.int .u8 k,.cQ [.int .u8 c]] (.bool (decide (k=c))):=by
 intro U R hR
 refine SY ?_
 unfold SX
 rw [oH,bC]
 exact He (al.mk hR)
theorem qj (a b n:Int):Pure K 122 [.int .i64 a,.int .i64 b,.int .i64 n] (.bool (decide (a <= n/\n <= b))):=by
 intro U R hR
 refine Rj ?_
 unfold Ri
 refine acK ?_
 by_cases h:a <= n
 . simp only [h,dZ,bj,iJ]
   refine nZ (nZ ?_)
   rw [lq]
   refine nZ ?_
   simp only [aM,if_true,aj]
   refine al.eq hR ?_
   simp [h]
 . simp only [h,eX,bj,show (false == true)=false from rfl,aP,cC,aM,bQ,if_false,aj]
   refine al.eq hR ?_
   simp [h]
def zf:iQ->AV
 | .item=>.func (.func 179) [] []
 | .type=>.func (.func 181) [] []
 | .base=>.func (.func 206) [] []
 | .term=>.func (.func 185) [] []
 | .arg=>.func (.func 207) [] []
 | .kind c=>.func (.func 242) [] [.cQ [.int .u8 c]]
theorem aaU {c:iQ} {k:Int} {U:St} {K':AV->St->Prop} {Kp:AV->St->Prop} (h:K' (.bool (c.is k)) U):(jk K.P (zf c) [.int .u8 k]).wp K U K' Kp:=by
 cases c with
 | item=>simp only [zf,jk,show fw K.P 179=true by kernel_rfl,if_true,lR,jY,gD]; exact (Dw k).go h
 | type=>simp only [zf,jk,show fw K.P 181=true by kernel_rfl,if_true,lR,jY,gD]; exact (Dz k).go h
 | base=>simp only [zf,jk,show fw K.P 206=true by kernel_rfl,if_true,lR,jY,gD]; exact (Dv k).go h
 | term=>simp only [zf,jk,show fw K.P 185=true by kernel_rfl,if_true,lR,jY,gD]; exact (yj k).go h
 | arg=>simp only [zf,jk,show fw K.P 207=true by kernel_rfl,if_true,lR,jY,gD]; exact (QF k).go h
 | kind c=>simp only [zf,jk,show fw K.P 242=true by kernel_rfl,if_true,lR,jY,gE]; exact (N0 k c).go h
def nI (s:lF):List AV:=[zf s.c,.int .i64 (s.least:Nat),.int .i64 (s.oh:Nat)]
def o9 (l:List lF):List AV:=l.flatMap nI
def mD (l:List lF):AV:=if l=[] then .aq else .vec l.length .full (o9 l)
def oR (f:gl):List AV:=[.bool f.text,.bool f.n,.bool f.m,mD f.kids]
theorem JI (L:List lF):(o9 L).length=3 * L.length:=by
 induction L with
 | nil=>rfl
 | cons t L ih =>
   have:(o9 (t::L)).length=3+(o9 L).length:=by simp [o9,nI]; omega
   rw [this,ih,fm]; omega
theorem DL (L:List lF) (i:Nat):(o9 L).drop (i * 3)=o9 (L.drop i):=by
 induction L generalizing i with
 | nil=>simp [o9]
 | cons t L ih =>
   cases i with
   | zero=>simp
   | succ i =>
     rw [Nat.add_mul,show i * 3+1 * 3=3+i * 3 by omega,<- List.drop_drop,List.drop_succ_cons,<- ih]
     rfl
theorem VG {L:List lF} {i:Nat} {t:lF} (h:L[i]?=some t):∃ r,(o9 L).drop (i * 3)=nI t++r:=by
 rw [DL,ib (dC.1 h).1]
 refine ⟨o9 (L.drop (i+1)),?_⟩
 have:=(dC.1 h).2
 simp [o9,this]
theorem VH (l:List lF):eP (mD l) l.length (o9 l):=by
 unfold mD
 split
 . rename_i h; subst h; exact .inl ⟨rfl,rfl,rfl⟩
 . exact .inr ⟨_,rfl⟩
theorem XT {v:AV} {ss:List lF} {s:lF} {i:Nat} {U:St} {K':AV->St->Prop} {Kp:AV->St->Prop} (hv:eP v ss.length (o9 ss)) (hs:ss[i]?=some s) (hk:K' (.agg (nI s)) U) :
 (aO (some (200,3)) none v (.int .i64 (i:Nat))).wp K U (fun p U=>(ak (some (true,3)) p U).wp K U K' Kp) Kp:=by
 have aQ:=(dC.1 hs).1
 obtain ⟨c,rfl,tB⟩:=hv.at (sz:=3) (e:=200) aQ
 obtain ⟨r,hr⟩:=VG hs
 rw [tB,hr]
 refine ⟨by omega,?_⟩
 rw [aj,uc]
 refine ⟨by simp [nI],?_⟩
 have:(nI s++r).take 3=nI s:=by simp [nI]
 rw [this]; exact hk
theorem F3 {k:Int} {z:AV}:∀ (ks:List Int) (vs:List AV),(∀ j ∈ ks,j ≠ k)->oe .i (.int .u8 k) z true (ks.map (.int .u8)) vs=.val (.aH [z,.bool false])
 | [],vs,_=>by cases vs <;> rfl
 | j::ks,[],_=>rfl
 | j::ks,v::vs,h=>by
   have hj:¬ k=j:=fun e=>h j (by simp) e.symm
   have:iy .i (.int .u8 k) (.int .u8 j)=some false:=by simp [iy,hj]
   simp only [eh,oe,this,bQ,if_false]
   exact F3 ks vs fun x hx=>h x (by simp [hx])
def J2:AV:=.agg [AV.bool false,AV.bool false,AV.bool false,AV.aq]
def Qy (n:Nat):Bool:=match p6 with
 | .ga ks vs=>(match oe .i (.int .u8 n) J2 true ks vs with
   | .val v=>jT v (match bA n with | some f=>.aH [.agg (oR f),.bool true] | none=>.aH [J2,.bool false])
   | _=>false)
 | _=>false
theorem NU:∀ n:Fin 38,Qy n.val=true:=by decide +kernel
end Go.Rip
namespace Go.Rip
open Go.Proofs Go.RowKit
theorem Kw (ks:List Int):(oU ks).length=ks.length:=by simp [oU]
theorem adE {U:St} {v:AV} {ks:List Int} {i e:Nat} {k:Int} {kq:AV->AV->Prop} (hv:eP v ks.length (oU ks)) (hk:ks[i]?=some k) (h:∀ L,kq (.cQ L) (.int .u8 k)) :
 ao K (.bool true) (aO (some (e,1)) none v (.int .i64 (i:Nat))) fun p=>ao K (.bool true) (ak (some (false,1)) p U) (kq p):=by
 have aQ:=(dC.1 hk).1
 obtain ⟨c,rfl,tB⟩:=hv.at (sz:=1) (e:=e) aQ
 obtain ⟨r,hr⟩:=Ys hk
 rw [tB,Nat.mul_one,hr]
 exact sv ⟨by omega,sv (h _)⟩
theorem abB {v:AV} {ks:List Int} {i:Nat} {e:Nat} {U:St} {K':AV->St->Prop} {Kp:AV->St->Prop} (hv:eP v ks.length (oU ks)) (hi:i <= ks.length) (hk:∀ v',eP v' (ks.drop i).length (oU (ks.drop i))->K' v' U) :
 (fI false (some (e,1)) v (some (.int .i64 (i:Nat))) none).wp K U K' Kp:=by
 rcases hv with ⟨h0,h1,rfl⟩ | ⟨c,rfl⟩
 . have iE:ks=[]:=sw.1 h0
   subst iE
   have zw:i=0:=by simpa using hi
   subst zw
   simp only [fI,ej,wp_cond,aj]
   refine ⟨by simp,hk _ (.inl ⟨rfl,rfl,rfl⟩)⟩
 . rw [Af,ki,nY]
   refine ⟨by omega,?_⟩
   refine hk _ (.inr ⟨xE c none,?_⟩)
   have:ks.length - i=(ks.drop i).length:=by rw [List.length_drop]
   simp only [jH,Nat.mul_one,this]
   rw [qD (by rw [Kw]; exact bT _)]
   congr 1
   simp [oU,List.map_drop]
theorem Y8 {ss:List lF} {i:Nat} {U:St} {K':AV->St->Prop} {Kp:AV->St->Prop} (hi:i < ss.length) (hk:∀ v',eP v' (ss.drop (i+1)).length (o9 (ss.drop (i+1)))->K' v' U) :
 (fI false (some (200,3)) (mD ss) (some (.int .i64 ((i:Nat)+1))) none).wp K U K' Kp:=by
 have cr:ss ≠ []:=by intro e; subst e; simp at hi
 unfold mD
 rw [if_neg cr,Af,ki,nY]
 refine ⟨by omega,?_⟩
 refine hk _ (.inr ⟨xE .full none,?_⟩)
 have:(ss.length:Int).toNat - ((i:Int)+1).toNat=(ss.drop (i+1)).length:=by rw [List.length_drop]; omega
 rw [this]
 congr 1
 rw [jH,qD (by rw [JI]; omega),show ((i:Int)+1).toNat=i+1 by omega,DL]
def vp (ks:List Int) (s:lF) (rest:Nat):Nat:=((ks.take (min (ks.length - rest) s.oh)).takeWhile s.c.is).length
theorem Ph (ks:List Int) (s:lF) (ss:List lF):dP ks (s::ss)=if vp ks s (ss.map (·.least)).sum < s.least then false else dP (ks.drop (vp ks s (ss.map (·.least)).sum)) ss:=by
 rw [dP]; rfl
theorem ER {p:Int->Bool}:∀ {l:List Int} {i:Nat},(∀ j (h:j < l.length),j < i->p l[j]=true)->i <= l.length->(i=l.length\/∃ h:i < l.length,p l[i]=false)->(l.takeWhile p).length=i
 | [],i,_,hi,_=>by simp at hi; simp [hi]
 | a::l,0,_,_,he=>by
   rcases he with he | ⟨h,he⟩
   . simp at he
   . rw [l9]; simp at he; simp [he]
 | a::l,i+1,cm,hi,he=>by
   have ha:p a=true:=cm 0 (by simp) (by omega)
   rw [l9,if_pos ha,fm]
   congr 1
   refine ER (fun j h hj=>?_) (by simpa using hi) ?_
   . have:=cm (j+1) (by simp; omega) (by omega)
     simpa using this
   . rcases he with he | ⟨h,he⟩
     . left; simpa using he
     . right; exact ⟨by simpa using h,by simpa using he⟩
theorem aaZ {U:St} {R:cY->St->Prop} {v:AV} {ks:List Int} {ss:List lF} (hv:eP v ks.length (oU ks)) (hl:ks.length <= 100000) (ux:ss.length <= 100) (p7:∀ s ∈ ss,s.least <= 1000/\s.oh <= 1000)
 (h:∀ ad,dm U ad->R (.ret (.bool (dP ks ss))) ad):ae K 209 [v,mD ss] U R:=by
 refine SA ?_
 unfold Sz
 have hss:=VH ss
 have hlen:cE (some false) (mD ss)=.val (.int .i64 ss.length):=hss.len
 rw [hlen,aj]
 refine ⟨fun m v0 v1 v11 v12 cz ad=>∃ (i:Nat) (ks':List Int),m=ss.length - i/\v1=mD ss/\v11=mD ss/\v12=.int .i64 ss.length/\cz=.int .i64 (i:Nat)/\i <= ss.length/\eP v0 ks'.length (oU ks')/\ks'.length <= ks.length/\dP ks' (ss.drop i)=dP ks ss/\dm U ad,
  ⟨_,0,ks,rfl,rfl,rfl,rfl,rfl,by omega,hv,bT _,rfl,dm.refl _⟩,?_⟩
 rintro m v0 v1 v11 v12 cz aR ⟨i,ks',rfl,rfl,rfl,rfl,rfl,hi,WS,sV,pR,e1⟩
 refine J0 (fun aQ=>?_) fun lI=>?_
 . have aQ:i < ss.length:=by omega
   obtain ⟨s,hs⟩:∃ s,ss[i]?=some s:=⟨ss[i],by simp [aQ]⟩
   have Lw:=p7 s (gr hs)
   have Nf:ss.drop i=s::ss.drop (i+1):=by
    rw [ib aQ]
    have:=(dC.1 hs).2
    rw [this]
   refine XT hss hs ?_
   rw [cZ]
   intro b6 va
   have m6:(aR.new b6 (.box [AV.dV,AV.int .i64 0,AV.int .i64 0])).box b6=some [AV.dV,AV.int .i64 0,AV.int .i64 0]:=aK
   have e2:=e1.new va (x:=.box [AV.dV,AV.int .i64 0,AV.int .i64 0])
   have f6:=e1.fresh va.1
   generalize aR.new b6 (.box [AV.dV,AV.int .i64 0,AV.int .i64 0])=bh at *
   rw [dk m6]
   refine ⟨⟨rfl,rfl,by simp⟩,?_⟩
   have g6:(bh.set b6 (.box (aA [AV.dV,AV.int .i64 0,AV.int .i64 0] 0 (ax (.agg (nI s)))))).box b6=some (nI s):=by rw [a7]; rfl
   have e3:=e2.set f6 (x:=.box (aA [AV.dV,AV.int .i64 0,AV.int .i64 0] 0 (ax (.agg (nI s)))))
   generalize bh.set b6 (.box (aA [AV.dV,AV.int .i64 0,AV.int .i64 0] 0 (ax (.agg (nI s)))))=bW at *
   rw [dO]
   refine ⟨bK (by omega) (by omega),?_⟩
   refine Y8 aQ fun v21 h21=>?_
   have abr:cE (some false) v21=.val (.int .i64 (ss.drop (i+1)).length):=h21.len
   rw [abr,aj]
   generalize Nl:ss.drop (i+1)=rest at *
   have hrl:rest.length <= 100:=by rw [<- Nl,List.length_drop]; omega
   have hrm:∀ s ∈ rest,s.least <= 1000:=fun s hs=>(p7 s (by rw [<- Nl] at hs; exact List.mem_of_mem_drop hs)).1
   have UF:∀ n,((rest.take n).map (·.least)).sum <= 1000 * n:=by
    have:∀ (l:List lF) (n:Nat),(∀ s ∈ l,s.least <= 1000)->((l.take n).map (·.least)).sum <= 1000 * n:=by
     intro l
     induction l with
     | nil=>intro n _; simp
     | cons a l ih =>
       intro n hm
       cases n with
       | zero=>simp
       | succ n =>
         have:=ih n fun s hs=>hm s (by simp [hs])
         have:=hm a (by simp)
         simp only [List.take_succ_cons,eh,List.sum_cons]; omega
    exact fun n=>this rest n hrm
   refine ⟨fun m w0 w1 w6 w7 Tt Tu GD w21 w22 w23 ad=>∃ j:Nat,m=rest.length - j/\w0=v0/\w1=mD ss/\w6=.box b6 0/\w7=.int .i64 (((rest.take j).map (·.least)).sum:Nat)/\Tt=mD ss/\Tu=.int .i64 ss.length/\GD=.int .i64 (i:Nat)/\w21=v21/\w22=.int .i64 rest.length/\w23=.int .i64 (j:Nat)/\j <= rest.length/\ad.box b6=some (nI s)/\dm U ad,
    ⟨_,0,rfl,rfl,rfl,rfl,rfl,rfl,rfl,rfl,rfl,rfl,rfl,by omega,g6,e3⟩,?_⟩
   clear e2 e3 g6 m6 va
   rintro m w0 w1 w6 w7 Tt Tu GD w21 w22 w23 cN ⟨j,rfl,rfl,rfl,rfl,rfl,rfl,rfl,rfl,rfl,rfl,rfl,hj,g6,e4⟩
   refine J0 (fun Iq=>?_) fun agY=>?_
   . have Iq:j < rest.length:=by omega
     obtain ⟨s2,rU⟩:∃ s2,rest[j]?=some s2:=⟨rest[j],by simp [Iq]⟩
     refine XT h21 rU ?_
     rw [cZ]
     intro b9 Ib
     have m9:(cN.new b9 (.box [AV.dV,AV.int .i64 0,AV.int .i64 0])).box b9=some [AV.dV,AV.int .i64 0,AV.int .i64 0]:=aK
     have e5:=e4.new Ib (x:=.box [AV.dV,AV.int .i64 0,AV.int .i64 0])
     have f9:=e4.fresh Ib.1
     have n9:=Ib.bX g6
     have g6':=(bB Ib (x:=.box [AV.dV,AV.int .i64 0,AV.int .i64 0])).bg g6
     generalize cN.new b9 (.box [AV.dV,AV.int .i64 0,AV.int .i64 0])=dv at *
     rw [dk m9]
     refine ⟨⟨rfl,rfl,by simp⟩,?_⟩
     have g9:(dv.set b9 (.box (aA [AV.dV,AV.int .i64 0,AV.int .i64 0] 0 (ax (.agg (nI s2)))))).box b9=some (nI s2):=by rw [a7]; rfl
     have ae7:(dv.set b9 (.box (aA [AV.dV,AV.int .i64 0,AV.int .i64 0] 0 (ax (.agg (nI s2)))))).box b6=some (nI s):=by rw [aY n9]; exact g6'
     have e6:=e5.set f9 (x:=.box (aA [AV.dV,AV.int .i64 0,AV.int .i64 0] 0 (ax (.agg (nI s2)))))
     generalize dv.set b9 (.box (aA [AV.dV,AV.int .i64 0,AV.int .i64 0] 0 (ax (.agg (nI s2)))))=nQ at *
     simp only [aZ,aj,df]
     refine eO g9 rfl ?_
     have jM:=UF j
     have iW:=hrm s2 (gr rU)
     rw [dO]
     refine ⟨bK (by omega) (by omega),?_⟩
     rw [dO]
     refine ⟨bK (by omega) (by omega),rest.length - (j+1),by omega,j+1,rfl,rfl,rfl,rfl,?_,rfl,rfl,rfl,rfl,rfl,by simp,Iq,ae7,e6⟩
     have:rest.take (j+1)=rest.take j++[s2]:=by rw [sx,rU]; rfl
     rw [this]; simp
   . have hj:j=rest.length:=by omega
     subst hj
     rw [tq]
     have jM:=UF rest.length
     rw [tq] at jM
     generalize afC:(rest.map (·.least)).sum=sm at *
     have adP:dP ks' (s::rest)=if vp ks' s sm < s.least then false else dP (ks'.drop (vp ks' s sm)) rest:=by rw [Ph,afC]
     rw [Nf,adP] at pR
     refine ⟨fun m u0 w1 w6 w7 GC Tt Tu GD ad=>∃ q:Nat,m=ks'.length - q/\u0=w0/\w1=mD ss/\w6=.box b6 0/\w7=.int .i64 (sm:Nat)/\GC=.int .i64 (q:Nat)/\Tt=mD ss/\Tu=.int .i64 ss.length/\GD=.int .i64 (i:Nat)/\q <= min (ks'.length - sm) s.oh/\(∀ (p:Nat) (hp:p < ks'.length),p < q->s.c.is ks'[p]=true)/\ad.box b6=some (nI s)/\dm U ad,
      ⟨_,0,rfl,rfl,rfl,rfl,rfl,rfl,rfl,rfl,rfl,by omega,fun p hp h=>by omega,g6,e4⟩,?_⟩
     clear g6 e4
     rintro m u0 w1 w6 w7 GC Tt Tu GD dv ⟨q,rfl,rfl,rfl,rfl,rfl,rfl,rfl,rfl,rfl,hq,cm,g6,e5⟩
     intro jj Bm
     have Nj:cE (some false) u0=.val (.int .i64 ks'.length):=WS.len
     have stop:vp ks' s sm=q->jj u0 (mD ss) (.box b6 0) (.int .i64 (sm:Nat)) (.int .i64 (q:Nat)) (mD ss) (.int .i64 ss.length) (.int .i64 (i:Nat)) (.bool false) dv:=fun hmq=>by
      refine Bm _ _ _ _ _ _ _ _ _ _ ?_
      refine eF ?_
      simp only [aZ,aj,df]
      refine eO g6 rfl ?_
      rw [hmq] at pR
      refine J0 (fun hml=>?_) fun hml=>?_
      . rw [if_pos (by omega)] at pR
        refine al.mk ?_
        rw [pR]; exact h _ e5
      . rw [if_neg (by omega)] at pR
        refine abB WS (by omega) fun nX Wj=>?_
        rw [dO]
        refine ⟨bK (by omega) (by omega),ss.length - (i+1),by omega,i+1,ks'.drop q,rfl,rfl,rfl,rfl,by simp,aQ,Wj,by simp; omega,?_,e5⟩
        rw [Nl]; exact pR
     have go:q < min (ks'.length - sm) s.oh->(∀ k,ks'[q]?=some k->s.c.is k=true)->jj u0 (mD ss) (.box b6 0) (.int .i64 (sm:Nat)) (.int .i64 (q:Nat)) (mD ss) (.int .i64 ss.length) (.int .i64 (i:Nat)) (.bool true) dv:=fun hql hqs=>by
      refine Bm _ _ _ _ _ _ _ _ _ _ ?_
      refine eH ?_
      rw [dO]
      refine ⟨bK (by omega) (by omega),ks'.length - (q+1),by omega,q+1,rfl,rfl,rfl,rfl,rfl,by simp,rfl,rfl,rfl,by omega,fun p hp WL=>?_,g6,e5⟩
      rcases kO p q with aQ | lI
      . exact cm p hp aQ
      . have:p=q:=by omega
        subst this; exact hqs _ (by simp [hp])
     have oh:q=min (ks'.length - sm) s.oh->vp ks' s sm=q:=fun hqe=>by
      unfold vp
      rw [<- hqe]
      refine ER (fun p hp WL=>?_) (by simp; omega) (.inl (by simp; omega))
      have:=cm p (by simp at hp; omega) WL
      simpa using this
     simp only [Nj,aJ,mJ,ij,mQ]
     refine ⟨bK (by omega) (by omega),?_⟩
     rw [cq,aJ]
     by_cases h1:(q:Int) < (ks'.length:Int) - (sm:Nat)
     . simp only [h1,dZ,bj,iJ]
       refine nZ (aa7 (aa8 g6 rfl ?_))
       rw [cq]
       refine nZ ?_
       simp only [aM,if_true,aJ]
       by_cases h2:(q:Int) < (s.oh:Nat)
       . have hqk:q < ks'.length:=by omega
         have hx:ks'[q]?=some ks'[q]:=by simp [hqk]
         simp only [h2,dZ,bj,iJ]
         refine aa7 (aa8 g6 rfl (nZ (nZ (adE WS hx fun L=>?_))))
         refine eH ?_
         refine aaU ⟨fun b hb=>rfl,?_⟩
         simp only [aM,if_true,aJ]
         cases hc:s.c.is ks'[q] with
         | true=>exact go (by omega) fun k hk=>by rw [hx] at hk; cases hk; exact hc
         | false =>
           refine stop ?_
           unfold vp
           refine ER (fun p hp WL=>?_) (by simp; omega) (.inr ⟨by simp; omega,by simpa using hc⟩)
           have:=cm p (by simp at hp; omega) WL
           simpa using this
       . simp only [h2,eX,bj,show (false == true)=false from rfl,aP,cC,aM,bQ,if_false,aJ]
         exact eF (stop (oh (by omega)))
     . simp only [h1,eX,bj,show (false == true)=false from rfl,aP,cC,aM,bQ,if_false,aJ]
       exact eF (stop (oh (by omega)))
 . have hi:i=ss.length:=by omega
   subst hi
   rw [List.drop_length] at pR
   have Nj:cE (some false) v0=.val (.int .i64 ks'.length):=WS.len
   rw [Nj,aj]
   refine He (al.eq (h _ e1) ?_)
   rw [<- pR,dP,AV.bool.injEq,pW,List.isEmpty_iff,ee]
   constructor
   . intro h; exact sw.1 (by omega)
   . rintro rfl; rfl
end Go.Rip
namespace Go.Rip
open Go.Proofs Go.RowKit
def IV (l:List Nd) (en:Int):Nat->Nat->Nat
 | 0,p=>p
 | f+1,p=>match l[p]? with
   | some x=>if (p:Int) < en/\0 < x.size then IV l en f (p+x.size.toNat) else p
   | none=>p
def behind (l:List Nd) (p:Nat) (ks:List Nat):Nat:=ks.foldl (fun _ k=>k+gw l k) p
theorem A6 (l:List Nd) (p:Nat) (ks:List Nat) (k:Nat):behind l p (ks++[k])=k+gw l k:=by simp [behind]
theorem FR (l:List Nd) (en:Int):∀ (f p:Nat),behind l p (fl l en f p)=IV l en f p
 | 0,p=>rfl
 | f+1,p=>by
   simp only [fl,IV]
   cases hx:l[p]? with
   | none=>rfl
   | some x =>
     simp only
     by_cases h:(p:Int) < en/\0 < x.size
     . rw [if_pos h,if_pos h,<- FR l en f]
       have:gw l p=x.size.toNat:=by unfold gw; rw [hx]; rfl
       simp only [behind,List.foldl_cons,this]
     . rw [if_neg h,if_neg h]; rfl
theorem FT {l:List Nd} (hs:CD l) {en:Nat} (hen:en <= l.length):∀ (f p:Nat),IV l en f p=sP l en f p
 | 0,p=>rfl
 | f+1,p=>by
   simp only [IV]
   by_cases hp:p < en
   . have aQ:p < l.length:=by omega
     have hx:l[p]?=some l[p]:=by simp [aQ]
     have:=hs.2.2 p _ hx
     rw [yF hx hp,hx]
     simp only
     rw [if_pos ⟨by omega,by omega⟩]
     exact FT hs hen f _
   . rw [yG hp]
     split
     . rw [if_neg (fun h=>hp (by omega))]
     . rfl
def iZ (l:List Nd) (ks:List Nat):List Int:=ks.map fun k=>((l[k]?.map Nd.kind).getD 0)
def kf (l:List Nd) (n:Nat) (x:Nd):Bool:=match bA x.kind with
 | none=>false
 | some f=>decide (1 <= x.size/\x.size <= (l.length:Int) - n) && (eg x f && ((fl l ((n:Int)+x.size) l.length (n+1)).all (fun k=>decide (1 <= gw l k/\(k:Int)+gw l k <= n+x.size)) &&
    (decide (((behind l (n+1) (fl l ((n:Int)+x.size) l.length (n+1)):Nat):Int)=n+x.size) && dP (iZ l (fl l ((n:Int)+x.size) l.length (n+1))) f.kids)))
theorem F6 {l:List Nd} {n:Nat} {s:Tre} {x:Nd} (hs:gn l n s) (hx:l[n]?=some x):kf l n x=yb x (s.kids.map Tre.kind):=by
 obtain ⟨y,hy,_,fh,_⟩:=hs.rh
 rw [hx] at hy; cases hy
 have hle:=hs.le
 have oT:=s.dE
 have hk:fl l ((n:Int)+x.size) l.length (n+1)=fj (n+1) s.kids:=by rw [fh]; exact xW hs
 have Bk:=mL s
 have fV:∀ (ts:List Tre) (p:Nat),re l p ts->(fj p ts).all (fun k=>decide (1 <= gw l k/\(k:Int)+gw l k <= (p:Int)+(Tre.bq ts).length))=true/\behind l p (fj p ts)=p+(Tre.bq ts).length/\iZ l (fj p ts)=ts.map Tre.kind:=by
  intro ts
  induction ts with
  | nil=>intro p _; simp [fj,behind,iZ]
  | cons t ts ih =>
    intro p Eo
    obtain ⟨z,hz,PW,wQ,_⟩:=Eo.head.rh
    have htp:=t.dE
    have Lv:gw l p=t.flat.length:=by unfold gw; rw [hz]; simp; omega
    obtain ⟨i1,i2,i3⟩:=ih _ Eo.tail
    refine ⟨?_,?_,?_⟩
    . simp only [fj,List.all_cons,bS,ee,Lv,Tre.cx,cM]
      refine ⟨⟨by omega,by omega⟩,?_⟩
      rw [fe] at i1 ⊢
      intro k hk
      have:=i1 k hk
      simp only [ee] at this ⊢
      omega
    . simp only [fj,behind,List.foldl_cons,Lv]
      have:behind l (p+t.flat.length) (fj (p+t.flat.length) ts)=p+(Tre.bq (t::ts)).length:=by rw [i2]; simp; omega
      exact this
    . simp only [fj,iZ,eh,hz,Option.map_some,Option.getD_some,PW]
      congr 1
 obtain ⟨h1,h2,h3⟩:=fV s.kids (n+1) hs.kids
 unfold kf yb Ui
 cases hf:bA x.kind with
 | none=>simp
 | some f =>
   simp only
   rw [hk,Fj hf,h2,h3]
   have e1:decide (1 <= x.size/\x.size <= (l.length:Int) - n)=true:=by rw [ee]; omega
   have e2:(fj (n+1) s.kids).all (fun k=>decide (1 <= gw l k/\(k:Int)+gw l k <= n+x.size))=true:=by
    rw [fe] at h1 ⊢
    intro k hk
    have:=h1 k hk
    simp only [ee] at this ⊢
    omega
   have e3:decide (((n+1+(Tre.bq s.kids).length:Nat):Int)=n+x.size)=true:=by rw [ee]; omega
   rw [e1,e2,e3]; simp
theorem BC {l:List Nd} (cr:l ≠ []) (h0:lX l=l.length) (h:∀ n x,l[n]?=some x->kf l n x=true):GP l:=by
 have zA:CD l:=by
  refine ⟨cr,h0,fun i x hx=>?_⟩
  have:=h i x hx
  unfold kf at this
  split at this
  . cases this
  . simp only [bS,ee] at this
    exact this.1
 refine ⟨zA,fun i x hx=>?_⟩
 have hq:=h i x hx
 have hsx:=zA.2.2 i x hx
 unfold kf at hq
 split at hq
 . cases hq
 . simp only [bS,ee] at hq
   have hb:=hq.2.2.2.1
   rw [FR] at hb
   have e:((i:Int)+x.size)=((i+x.size.toNat:Nat):Int):=by omega
   rw [e] at hb
   rw [<- FT zA (by omega)]
   exact_mod_cast hb
theorem Gk {l:List Nd} {x0:Nd} (h0:l[0]?=some x0):(x0.kind=1/\x0.size=l.length/\∀ n x,l[n]?=some x->kf l n x=true) ↔ ∃ t:Tre,l=t.flat/\t.kind=1/\t.ok=true:=by
 constructor
 . rintro ⟨h1,h2,h3⟩
   have cr:l ≠ []:=by intro e; subst e; simp at h0
   have wP:lX l=l.length:=by
    cases l with
    | nil=>exact absurd rfl cr
    | cons y r=>simp at h0; subst h0; exact h2
   obtain ⟨t,rfl⟩:=(Gs l).1 (BC cr wP h3)
   obtain ⟨y,hy,hk,_⟩:=(gn.whole t).rh
   rw [h0] at hy; cases hy
   refine ⟨t,rfl,by rw [<- hk,h1],?_⟩
   have:=Jj (l:=t.flat) _ [t] 0 (bT _) ⟨[],by simp⟩ (fun j s x _ hj hs hx=>by rw [<- F6 hs hx]; exact h3 j x hx)
   simpa using this
 . rintro ⟨t,rfl,hk,ho⟩
   obtain ⟨y,hy,hyk,hys,_⟩:=(gn.whole t).rh
   rw [h0] at hy; cases hy
   refine ⟨by rw [hyk,hk],hys,fun n x hx=>?_⟩
   obtain ⟨⟨s,_,hs,_⟩,_⟩:=place t (dC.1 hx).1
   rw [F6 hs hx]
   exact U1 (ace ho hs) hs hx
theorem tM {l:List Nd} (h9:¬ 900 < l.length) (h:¬ ∃ t:Tre,l=t.flat/\t.kind=1/\t.ok=true):gp l=4:=by
 unfold gp
 rw [if_neg h9]
 cases ht:Cu l with
 | none=>rfl
 | some t =>
   have:=Tp ht
   subst this
   show BY t=4
   unfold BY
   rw [if_pos]
   by_cases hk:t.kind=1
   . right
     cases ho:t.ok with
     | false=>rfl
     | true=>exact absurd ⟨t,rfl,hk,ho⟩ h
   . exact .inl hk
theorem K5 {c:UInt8} (h:c8 c=true):lS c=true/\c.toNat ≠ 32/\c.toNat ≠ 10/\c.toNat ≠ 126:=by
 simp only [c8,gd,lT,G0,jW,ee] at h
 simp only [lS,ee]
 omega
theorem ya {s:aG} (h:kL s=true):iM s=.ok [⟨1,s,0⟩]:=by
 have hlen:=KD h
 unfold kL at h
 rw [ee] at h
 rcases qZ h with ⟨_,_,_,⟨c,r,e,hc⟩,cm⟩ | h' | h' | h'
 . have Uw:sb s=(0,0):=by
    unfold sb
    rw [if_neg (by omega)]
    have:s.findIdx? (fun c=>!lS c)=none:=by
     rw [List.findIdx?_eq_none_iff]
     intro x hx
     rw [fe] at cm
     have:=K5 (cm x hx)
     simp [this.1]
    rw [this]
   unfold iM
   rw [Uw]
   simp only [ne_eq,not_true,if_false]
   obtain ⟨n,hn⟩:∃ n,s.length=n+1:=⟨r.length,by rw [e]; simp⟩
   rw [hn,eT]
   subst e
   have agW:=K5 (show c8 c=true by rw [fe] at cm; exact cm c (by simp))
   simp only [eD]
   rw [if_neg (by omega),if_neg (by omega),h]
   simp only [ne_eq,not_true,if_false,ko,show ¬ ((0:Nat)=900) by omega,df,jY]
   have Fv:r.length=n:=by simpa using hn
   cases n with
   | zero=>simp only [eT]
   | succ n =>
     rw [eT,List.drop_of_length_le (by simp)]
 . omega
 . omega
 . omega
where
 KD {s:aG} (h:kL s=true):s.length <= 12:=by
  unfold kL at h
  rw [ee] at h
  rcases qZ h with h | h | h | h
  . exact h.2.2.1
  . omega
  . omega
  . omega
theorem N1 (s:aG) (hs:s.length <= 3000):Pure K 208 [.str s] (.bool (kL s)):=by
 intro U R hR
 refine Sy ?_
 unfold Sx
 refine (BL s hs).go ?_
 cases hl:iM s with
 | bad p e =>
   have hn:kL s=false:=by
    cases h:kL s with
    | false=>rfl
    | true=>rw [ya h] at hl; cases hl
   rw [hn] at hR
   have he:e ≠ 0:=by
    unfold iM at hl
    split at hl
    split at hl
    . rename_i he; cases hl; exact he
    . exact vi _ _ _ _ hl
   simp only [uO,bD,List.drop,bC,bu,aj,he,eX,bj,show (false == true)=false from rfl,aP,cC,aM,bQ,if_false]
   exact al.mk hR
 | ok L =>
   simp only [uO,bD,List.drop,bC,bu,aj,dZ,bj,iJ]
   have sX:=VP L
   have hlen:cE (some false) (sF L)=.val (.int .i64 L.length):=sX.len
   refine nZ ?_
   rw [hlen]
   refine nZ ?_
   rw [bu]
   refine nZ ?_
   simp only [aM,if_true,aj]
   by_cases h1:L.length=1
   . match L,h1 with
     | [t],_ =>
       have pN:kh t:=(wX hl).1 t (by simp)
       have tok:∀ (o:Nat) (c:AV) (kq:AV->Prop),(qh t)[o]?=some c->kq c->ao K (.bool true) (aO (some (51,3)) none (sF [t]) (.int .i64 0)) fun a=>ao K (.bool true) (af (some o) a) fun b=>ao K (.bool true) (ak (some (false,1)) b U) kq:=fun o c kq hc hk=>by
        obtain ⟨r',yT⟩:=HJ hc []
        refine sv ⟨by simp,?_⟩
        refine sv ?_
        simp only [Int.toNat_zero,Nat.zero_mul,eD,dJ,aJ]
        refine sv ?_
        rw [s8,show jI [t]=qh t++[] from rfl,yT,jQ]; exact hk
       simp only [fm,ko,df,show ((1:Nat):Int)=1 from rfl,dZ,bj,iJ]
       refine nZ (tok 0 (.int .u8 t.k) _ rfl ?_)
       rw [bu]
       refine nZ ?_
       simp only [aM,if_true,aj]
       by_cases hk:(t.k:Int)=1
       . simp only [hk,dZ,bj,iJ]
         refine nZ (tok 1 (.str t.s) _ rfl (nZ ?_))
         rw [ln]
         refine nZ ?_
         simp only [aM,if_true,aj]
         refine al.eq hR ?_
         rw [AV.bool.injEq,pW,ee]
         constructor
         . intro h
           have:=pN.2
           rw [show t.k=1 by omega] at this
           rw [<- h]; unfold kL; rw [this]; simp
         . intro h
           rw [ya h] at hl
           cases hl; rfl
       . simp only [hk,eX,bj,show (false == true)=false from rfl,aP,cC,aM,bQ,if_false,aj]
         refine al.eq hR ?_
         cases h:kL s with
         | false=>rfl
         | true=>rw [ya h] at hl; cases hl; exact absurd rfl hk
   . have uk:¬ (L.length:Int)=1:=by omega
     simp only [uk,eX,bj,show (false == true)=false from rfl,aP,cC,aM,bQ,if_false,aj]
     refine al.eq hR ?_
     cases h:kL s with
     | false=>rfl
     | true=>rw [ya h] at hl; cases hl; exact absurd rfl h1
where
 VP (l:List Tk):eP (sF l) l.length (jI l):=by
  unfold sF
  split
  . rename_i h; subst h; exact .inl ⟨rfl,rfl,rfl⟩
  . exact .inr ⟨_,rfl⟩
 vi:∀ (f:Nat) (s:aG) (p:Nat) (l:List Tk) {q:Nat} {e:Int},eT f s p l=.bad q e->e ≠ 0
  | 0,s,p,l,q,e,h=>by simp [eT] at h
  | f+1,s,p,l,q,e,h=>by
    simp only [eT] at h
    split at h
    . cases h
    . split at h
      . exact vi f s _ l h
      . split at h
        . exact vi f s _ l h
        . split at h
          . rename_i he; cases h; exact he
          . split at h
            . cases h; omega
            . exact vi f s _ _ h
end Go.Rip
