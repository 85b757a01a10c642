/- Lemmas for the proof: no conditions. -/
import Derived.Test.YtnfpmiiopiinbaaGreatDoorRipZz
import Derived.Test.YtnfpmiiopiinbaaGreatDoorRipY
import Derived.Test.YtnfpmiiopiinbaaGreatDoorRipQ
set_option linter.unusedVariables false
set_option linter.unusedSimpArgs false
set_option linter.loopingSimpArgs false
namespace Go.Rip
open Go.Proofs Go.RowKit
def wD:List Int:=(List.range 37).map fun i=>((i:Nat):Int)+1
theorem MZ {k:Int} (h:k < 1\/37 < k):∀ j ∈ wD,j ≠ k:=by
 intro j hj
 simp only [wD,List.mem_map,List.mem_range] at hj
 obtain ⟨i,hi,rfl⟩:=hj
 omega
theorem Pj:∃ vs,p6=.ga (wD.map (.int .u8)) vs:=⟨_,by unfold p6 wD; rfl⟩
theorem look_ok (k:Int) (U:St):eB (some (.i,204)) (some (.agg [AV.bool false,AV.bool false,AV.bool false,AV.aq])) p6 (.int .u8 k) true U=.val (match bA k with | some f=>.aH [.agg (oR f),.bool true] | none=>.aH [J2,.bool false]):=by
 obtain ⟨vs,zC⟩:=Pj
 rw [zC]
 show oe .i (.int .u8 k) J2 true (wD.map (.int .u8)) vs=_
 by_cases h:k < 1\/37 < k
 . rw [vS h]
   exact F3 wD vs (MZ h)
 . obtain ⟨n,rfl⟩:∃ n:Nat,k=n:=⟨k.toNat,by omega⟩
   have:=NU ⟨n,by omega⟩
   unfold Qy at this
   rw [zC] at this
   simp only at this
   split at this
   . rename_i v hv
     rw [hv,wy this]
     cases bA n <;> rfl
   . cases this
theorem eP.abC {U:St} {v:AV} {l:List Nd} (h:eP v l.length (cF l)):BR U v l:=by
 rcases h with ⟨h0,_,h1⟩ | ⟨c,h1⟩
 . exact .inl (.inl ⟨h1,sw.1 h0⟩)
 . exact .inl (.inr ⟨c,h1⟩)
theorem HY {k:Int} {f:gl} (h:bA k=some f):f.kids.length <= 100/\∀ s ∈ f.kids,s.least <= 1000/\s.oh <= 1000:=by
 have hk:1 <= k/\k <= 37:=by
  by_cases h1:k < 1\/37 < k
  . rw [vS h1] at h; cases h
  . omega
 obtain ⟨n,rfl⟩:∃ n:Nat,k=n:=⟨k.toNat,by omega⟩
 have all:∀ n:Fin 38,(match bA ((n.val:Nat):Int) with | some f=>decide (f.kids.length <= 100) && f.kids.all fun s=>decide (s.least <= 1000/\s.oh <= 1000) | none=>true)=true:=by decide +kernel
 have:=all ⟨n,by omega⟩
 simp only [h,bS,ee,fe] at this
 exact this
def nh (U:St) (bs:List (Nat × List AV)):Prop:=∀ p ∈ bs,U.box p.1=some p.2
section
variable {U ad:St} {bs:List (Nat × List AV)} {b:Nat} {x:List AV}
theorem nh.HM (h:nh U bs) (e:dm U ad):nh ad bs:=fun p hp=>e.bg (h p hp)
theorem nh.cons (h:nh U bs) (k:U.box b=some x):nh U ((b,x)::bs):=fun p hp=>by
 rcases cJ.1 hp with rfl | hp
 . exact k
 . exact h p hp
theorem nh.set (h:nh U bs) (hb:∀ p ∈ bs,p.1 ≠ b) {y:Live}:nh (U.set b y) bs:=fun p hp=>by
 rw [aY (hb p hp)]; exact h p hp
theorem nh.del (h:nh U bs) (hb:∀ p ∈ bs,p.1 ≠ b):nh (U.del b) bs:=fun p hp=>by
 rw [jr (hb p hp)]; exact h p hp
theorem nh.fresh (h:nh U bs) (f:U.dA b):∀ p ∈ bs,p.1 ≠ b:=fun p hp=>f.bX (h p hp)
end
theorem aeb {e:TypeId} {x:AV} {z:AV} {kq:AV->Prop} (hx:x.dh=true) (hc:ax x=[x]) (hk:kq (.vec 1 .full [x])):aB K (ar (some (e,1)) (some [z]) 1 false [(0,x)]) kq:=by
 rw [yl]
 refine ⟨by omega,?_⟩
 rw [uH (o:=0) (s:=1) rfl]
 refine ⟨⟨hx,by rw [hc]; rfl,by simp [bO]⟩,?_⟩
 rw [AP,hc]
 exact ⟨rfl,hk⟩
theorem je.loop {au U:St} {v:AV} {e:TypeId} {sz n:Nat} {l:List AV} {o:Nat} {L L':fL} (h:je au U v e sz n l) (ho:U.loop o=some L) (hx:dm au (U.set o (.loop L'))):je au (U.set o (.loop L')) v e sz n l:=by
 refine ⟨?_,h.z,h.t,hx⟩
 rcases h.g with g | ⟨τ,r1,r2,r3⟩
 . exact .inl g
 . refine .inr ⟨τ,r1,?_,r3⟩
   rw [gY]; exact r2
   rintro rfl
   unfold St.tok at r2; unfold St.loop at ho
   split at ho
   . rename_i e; simp [e] at r2
   . cases ho
theorem IW {l:List Nd} {ks:List Nat} {k:Nat} {x:Nd} (h:l[k]?=some x):iZ l (ks++[k])=iZ l ks++[x.kind]:=by simp [iZ,h]
theorem YF {U:St} {R:cY->St->Prop} {v:AV} {l:List Nd} {n:Nat} {x:Nd} (hv:eP v l.length (cF l)) (hx:l[n]?=some x) (hl:l.length <= 10000) (qR:x.text.length <= 3000) (p8:∀ ad,dm U ad)
 (h:∀ ad,dm U ad->R (.ret (.bool (kf l n x))) ad):ae K 131 [.agg [v],.int .i64 (n:Nat),p6] U R:=by
 refine Rw ?_
 unfold Rv
 have hnl:=(dC.1 hx).1
 rw [hU rfl]
 intro b3 lu
 have k3:(U.new b3 (.box (ax (.agg [v])))).box b3=some [v]:=aK
 have e1:=bB lu (x:=.box (ax (.agg [v])))
 generalize U.new b3 (.box (ax (.agg [v])))=aR at *
 rw [hU rfl]
 intro b4 iw
 have k4:(aR.new b4 (.box (ax (.int .i64 (n:Nat))))).box b4=some [.int .i64 (n:Nat)]:=aK
 have Jc:=iw.bX k3
 have e2:=e1.new iw (x:=.box (ax (.int .i64 (n:Nat))))
 have k3:=(bB iw (x:=.box (ax (.int .i64 (n:Nat))))).bg k3
 generalize aR.new b4 (.box (ax (.int .i64 (n:Nat))))=bh at *
 rw [cZ]
 intro b6 va
 have k6:(bh.new b6 (.box [.bool false])).box b6=some [.bool false]:=aK
 have n36:=va.bX k3
 have n46:=va.bX k4
 have f6:U.live b6=none:=e2.fresh va.1
 have e3:=e2.new va (x:=.box [.bool false])
 have k3:=(bB va (x:=.box [.bool false])).bg k3
 have k4:=(bB va (x:=.box [.bool false])).bg k4
 generalize bh.new b6 (.box [.bool false])=bW at *
 simp only [aZ,aj,df]
 refine eO k3 rfl ?_
 refine eO k4 rfl ?_
 refine EV hv hx fun r=>?_
 rw [uc]
 refine ⟨by simp [dY],?_⟩
 have H5:(dY x++r).take 6=dY x:=by simp [dY]
 rw [H5,cZ]
 intro b7 mU
 have k7:(bW.new b7 (.box [AV.int .u8 0,AV.str [],AV.int .i64 0,AV.int .i64 0,AV.int .i64 0,AV.int .i64 0])).box b7=some [AV.int .u8 0,AV.str [],AV.int .i64 0,AV.int .i64 0,AV.int .i64 0,AV.int .i64 0]:=aK
 have n37:=mU.bX k3
 have W4:=mU.bX k4
 have n67:=mU.bX k6
 have f7:U.live b7=none:=e3.fresh mU.1
 have e4:=e3.new mU (x:=.box [AV.int .u8 0,AV.str [],AV.int .i64 0,AV.int .i64 0,AV.int .i64 0,AV.int .i64 0])
 have en:=bB mU (x:=.box [AV.int .u8 0,AV.str [],AV.int .i64 0,AV.int .i64 0,AV.int .i64 0,AV.int .i64 0])
 have k3:=en.bg k3
 have k4:=en.bg k4
 have k6:=en.bg k6
 clear en
 generalize bW.new b7 (.box [AV.int .u8 0,AV.str [],AV.int .i64 0,AV.int .i64 0,AV.int .i64 0,AV.int .i64 0])=cN at *
 rw [dk k7]
 refine ⟨⟨rfl,rfl,by simp [dY]⟩,?_⟩
 have j7:(cN.set b7 (.box (aA [AV.int .u8 0,AV.str [],AV.int .i64 0,AV.int .i64 0,AV.int .i64 0,AV.int .i64 0] 0 (ax (.agg (dY x)))))).box b7=some (dY x):=by rw [a7]; rfl
 have k3:(cN.set b7 (.box (aA [AV.int .u8 0,AV.str [],AV.int .i64 0,AV.int .i64 0,AV.int .i64 0,AV.int .i64 0] 0 (ax (.agg (dY x)))))).box b3=some [v]:=by rw [aY n37]; exact k3
 have k4:(cN.set b7 (.box (aA [AV.int .u8 0,AV.str [],AV.int .i64 0,AV.int .i64 0,AV.int .i64 0,AV.int .i64 0] 0 (ax (.agg (dY x)))))).box b4=some [.int .i64 (n:Nat)]:=by rw [aY W4]; exact k4
 have k6:(cN.set b7 (.box (aA [AV.int .u8 0,AV.str [],AV.int .i64 0,AV.int .i64 0,AV.int .i64 0,AV.int .i64 0] 0 (ax (.agg (dY x)))))).box b6=some [.bool false]:=by rw [aY n67]; exact k6
 have e5:=e4.set f7 (x:=.box (aA [AV.int .u8 0,AV.str [],AV.int .i64 0,AV.int .i64 0,AV.int .i64 0,AV.int .i64 0] 0 (ax (.agg (dY x)))))
 generalize cN.set b7 (.box (aA [AV.int .u8 0,AV.str [],AV.int .i64 0,AV.int .i64 0,AV.int .i64 0,AV.int .i64 0] 0 (ax (.agg (dY x)))))=dv at *
 clear k7 lu iw va mU e1 e2 e3 e4
 refine eO j7 rfl ?_
 rw [look_ok,aj]
 have ret:∀ (q:Bool) (ad:St),dm U ad->(∃ y,ad.box b6=some [y])->kf l n x=q->(aI (some (false,1)) (.box b6 0) (.bool q) ad).wp K ad (fun _ U=>bF (some (false,1)) (.box b6 0) U fun r0=>al R r0 U) (aa R):=by
  intro q ad e ⟨y,hy⟩ hq
  rw [dk hy]
  refine ⟨⟨rfl,rfl,by simp⟩,?_⟩
  rw [yo a7 rfl]
  subst hq
  exact al.mk (h _ (e.set f6))
 cases hf:bA x.kind with
 | none =>
   have hq:kf l n x=false:=by unfold kf; rw [hf]
   simp only [bD,List.drop,bC,J2]
   rw [cZ]
   intro b8 sU
   have k8:(dv.new b8 (.box [AV.bool false,AV.bool false,AV.bool false,AV.aq])).box b8=some [AV.bool false,AV.bool false,AV.bool false,AV.aq]:=aK
   have n68:=sU.bX k6
   have e6:=e5.new sU (x:=.box [AV.bool false,AV.bool false,AV.bool false,AV.aq])
   have f8:U.live b8=none:=e5.fresh sU.1
   have k6:=(bB sU (x:=.box [AV.bool false,AV.bool false,AV.bool false,AV.aq])).bg k6
   generalize dv.new b8 (.box [AV.bool false,AV.bool false,AV.bool false,AV.aq])=nQ at *
   rw [dk k8]
   refine ⟨⟨rfl,rfl,by simp⟩,?_⟩
   simp only [eI,aj,fD,bj,show (true == false)=false from rfl,aP,cC,qM,aM,if_true]
   exact eH (ret false _ (e6.set f8) ⟨.bool false,by rw [aY n68]; exact k6⟩ hq)
 | some f =>
   simp only [bD,List.drop,bC]
   rw [cZ]
   intro b8 sU
   have k8:(dv.new b8 (.box [AV.bool false,AV.bool false,AV.bool false,AV.aq])).box b8=some [AV.bool false,AV.bool false,AV.bool false,AV.aq]:=aK
   have n38:=sU.bX k3
   have n48:=sU.bX k4
   have n68:=sU.bX k6
   have n78:=sU.bX j7
   have e6:=e5.new sU (x:=.box [AV.bool false,AV.bool false,AV.bool false,AV.aq])
   have f8:U.live b8=none:=e5.fresh sU.1
   have en:=bB sU (x:=.box [AV.bool false,AV.bool false,AV.bool false,AV.aq])
   have k3:=en.bg k3
   have k4:=en.bg k4
   have k6:=en.bg k6
   have j7:=en.bg j7
   clear en
   generalize dv.new b8 (.box [AV.bool false,AV.bool false,AV.bool false,AV.aq])=nQ at *
   have Bk:(oR f).length=4:=rfl
   rw [dk k8]
   refine ⟨⟨rfl,rfl,by simp [Bk]⟩,?_⟩
   have j8:(nQ.set b8 (.box (aA [AV.bool false,AV.bool false,AV.bool false,AV.aq] 0 (ax (.agg (oR f)))))).box b8=some (oR f):=by rw [a7]; rfl
   have k3:(nQ.set b8 (.box (aA [AV.bool false,AV.bool false,AV.bool false,AV.aq] 0 (ax (.agg (oR f)))))).box b3=some [v]:=by rw [aY n38]; exact k3
   have k4:(nQ.set b8 (.box (aA [AV.bool false,AV.bool false,AV.bool false,AV.aq] 0 (ax (.agg (oR f)))))).box b4=some [.int .i64 (n:Nat)]:=by rw [aY n48]; exact k4
   have k6:(nQ.set b8 (.box (aA [AV.bool false,AV.bool false,AV.bool false,AV.aq] 0 (ax (.agg (oR f)))))).box b6=some [.bool false]:=by rw [aY n68]; exact k6
   have j7:(nQ.set b8 (.box (aA [AV.bool false,AV.bool false,AV.bool false,AV.aq] 0 (ax (.agg (oR f)))))).box b7=some (dY x):=by rw [aY n78]; exact j7
   have e7:=e6.set f8 (x:=.box (aA [AV.bool false,AV.bool false,AV.bool false,AV.aq] 0 (ax (.agg (oR f)))))
   generalize nQ.set b8 (.box (aA [AV.bool false,AV.bool false,AV.bool false,AV.aq] 0 (ax (.agg (oR f)))))=jy at *
   clear k8 sU e5 e6
   have hQ:kf l n x=(decide (1 <= x.size/\x.size <= (l.length:Int) - n) && (eg x f && ((fl l ((n:Int)+x.size) l.length (n+1)).all (fun k=>decide (1 <= gw l k/\(k:Int)+gw l k <= n+x.size)) &&
    (decide (((behind l (n+1) (fl l ((n:Int)+x.size) l.length (n+1)):Nat):Int)=n+x.size) && dP (iZ l (fl l ((n:Int)+x.size) l.length (n+1))) f.kids)))):=by unfold kf; rw [hf]
   simp only [eI,aj,du,bj,iJ,aP,cI,aJ]
   have hlen:cE (some false) v=.val (.int .i64 l.length):=hv.len
   refine kN (fO k3 rfl ?_)
   rw [hlen,aJ]
   refine fO k4 rfl ?_
   rw [mJ,ij,mQ,aJ]
   refine ⟨bK (by omega) (by omega),?_⟩
   refine kN (fO j7 rfl (oN (qj _ _ _) ?_))
   simp only [eI,aJ,aM,bQ,if_false,aj]
   have bad:kf l n x=false->(aI (some (false,1)) (.box b6 0) (.bool false) jy).wp K jy (fun _ U=>bF (some (false,1)) (.box b6 0) U fun r0=>al R r0 U) (aa R):=fun hq=>ret false _ e7 ⟨_,k6⟩ hq
   by_cases hw:1 <= x.size/\x.size <= (l.length:Int) - n
   rotate_left
   . simp only [hw,eX,fD,bj,show (true == false)=false from rfl,aP,cC,qM,aM,if_true,aj]
     exact eH (bad (by rw [hQ,decide_eq_false hw]; rfl))
   rw [decide_eq_true hw,Bool.true_and] at hQ
   simp only [hw,dZ,du,bj,iJ,aP,cI]
   simp only [and_self,dZ,du,bj,iJ,aP,cI]
   refine kN (fO j8 rfl (kN (fO j7 rfl ?_)))
   rw [vP,aJ,Hv,aJ]
   have hwt:(!decide (x.text=w_))=decide (x.text ≠ []):=by
    by_cases h:x.text=[] <;> simp [h,w_]
   rw [hwt]
   simp only [aM,bQ,if_false,aj]
   have u9:eg x f=((f.text == decide (x.text ≠ [])) && ((!f.text || kL x.text) && (dH x.n && (dH x.m && ((f.n || decide (x.n=0)) && (f.m || decide (x.m=0))))))):=by
    unfold eg
    have e0:(x.text != [])=decide (x.text ≠ []):=by by_cases h:x.text=[] <;> simp [h]
    have e1:(x.n == 0)=decide (x.n=0):=by by_cases h:x.n=0 <;> simp [h]
    have e2:(x.m == 0)=decide (x.m=0):=by by_cases h:x.m=0 <;> simp [h]
    rw [e0,e1,e2]; simp only [Bool.and_assoc]
   cases ht:(f.text != decide (x.text ≠ [])) with
   | true =>
     simp only [bj,show (true == false)=false from rfl,aP,cC,qM,aM,if_true,aj]
     refine eH (bad ?_)
     have:(f.text == decide (x.text ≠ []))=false:=by revert ht; cases f.text <;> cases decide (x.text ≠ []) <;> simp
     rw [hQ,u9,this]; rfl
   | false =>
   have qQ:(f.text == decide (x.text ≠ []))=true:=by revert ht; cases f.text <;> cases decide (x.text ≠ []) <;> simp
   rw [qQ,Bool.true_and] at u9
   simp only [bj,iJ,aP,cI]
   refine kN (fO j8 rfl ?_)
   simp only [aJ]
   have nm:∀ (A:Prop),((!f.text || kL x.text)=true->A) ->
    ao K (aL (.bool f.text) true) (af (some 1) (.box b7 0)) (fun nN =>
    ao K (aL (.bool f.text) true) (ak (some (false,1)) nN jy) (fun v53 =>
    ao K (aL (.bool f.text) true) (aC.enter 208 [v53]) (fun nO =>
    ao K (aL (.bool f.text) true) (ly .not nO) (fun oG =>
    aB K (bM (.bool f.text) oG (.bool false)) (fun mE =>
    av (if false=true then AV.bool true else mE) ((aI (some (false,1)) (.box b6 0) (.bool false) jy).wp K jy (fun _ U=>bF (some (false,1)) (.box b6 0) U fun r0=>al R r0 U) (aa R)) A))))):=by
    intro A hA
    cases Lm:f.text with
    | false =>
      simp only [bj,show (false == true)=false from rfl,aP,cC,aM,bQ,if_false,aJ,aj]
      exact eF (hA (by rw [Lm]; rfl))
    | true =>
      simp only [bj,iJ,aP,cI]
      refine kN (fO j7 rfl (oN (N1 _ qR) ?_))
      simp only [eI,aJ,aM,if_true,bQ,if_false,aj]
      cases Fx:kL x.text with
      | true=>exact eF (hA (by rw [Lm,Fx]; rfl))
      | false=>exact eH (bad (by rw [hQ,u9,Lm,Fx]; rfl))
   refine nm _ fun Fx=>?_
   clear nm
   rw [Fx,Bool.true_and] at u9
   simp only [aZ,aj,df]
   refine eO j7 rfl ((qj _ _ _).go ?_)
   have PE:∀ a:Int,decide (0 <= a/\a <= 1000000)=dH a:=fun _=>rfl
   rw [PE]
   simp only [eI,aj]
   cases hN:dH x.n with
   | false =>
     simp only [fD,bj,show (true == false)=false from rfl,aP,cC,qM,aM,if_true,aj]
     exact eH (bad (by rw [hQ,u9,hN]; rfl))
   | true =>
   rw [hN,Bool.true_and] at u9
   simp only [du,bj,iJ,aP,cI,aJ]
   refine fO j7 rfl (oN (qj _ _ _) ?_)
   rw [PE]
   simp only [eI,aJ,aM,bQ,if_false,aj]
   cases hM:dH x.m with
   | false =>
     simp only [fD,bj,show (true == false)=false from rfl,aP,cC,qM,aM,if_true,aj]
     exact eH (bad (by rw [hQ,u9,hM]; rfl))
   | true =>
   rw [hM,Bool.true_and] at u9
   simp only [du,bj,iJ,aP,cI,aJ]
   refine fO j8 rfl ?_
   simp only [eI,aJ]
   have XE:∀ (kq:AV->Prop),((f.n || decide (x.n=0))=true->kq (.bool false))->((f.n || decide (x.n=0))=false->kq (.bool true)) ->
    ao K (aL (.bool !f.n) true) (.val (.box b7 2)) (fun BM=>ao K (aL (.bool !f.n) true) (ak (some (false,1)) BM jy) fun td=>ao K (aL (.bool !f.n) true) (aw .neq (BT.mk false false false none false) true td (AV.int .i64 0)) fun v75 =>
     aB K (bM (.bool !f.n) v75 (.bool false)) kq):=by
    intro kq h1 h2
    cases hfn:f.n with
    | true =>
      simp only [du,bj,show (false == true)=false from rfl,aP,cC,aM,bQ,if_false,aJ]
      exact h1 (by rw [hfn]; rfl)
    | false =>
      simp only [fD,bj,iJ,aP,cI,aJ]
      refine fO j7 rfl ?_
      rw [dS,aJ]
      simp only [aM,if_true,aJ]
      by_cases h0:x.n=0
      . simp only [h0,dZ,du]; exact h1 (by simp [h0])
      . simp only [h0,eX,fD]; exact h2 (by rw [hfn]; simp [h0])
   have XD:∀ (kq:AV->Prop),((f.m || decide (x.m=0))=true->kq (.bool false))->((f.m || decide (x.m=0))=false->kq (.bool true)) ->
    ao K (aL (.bool !f.m) true) (.val (.box b7 3)) (fun BM=>ao K (aL (.bool !f.m) true) (ak (some (false,1)) BM jy) fun td=>ao K (aL (.bool !f.m) true) (aw .neq (BT.mk false false false none false) true td (AV.int .i64 0)) fun v75 =>
     aB K (bM (.bool !f.m) v75 (.bool false)) kq):=by
    intro kq h1 h2
    cases hfn:f.m with
    | true =>
      simp only [du,bj,show (false == true)=false from rfl,aP,cC,aM,bQ,if_false,aJ]
      exact h1 (by rw [hfn]; rfl)
    | false =>
      simp only [fD,bj,iJ,aP,cI,aJ]
      refine fO j7 rfl ?_
      rw [dS,aJ]
      simp only [aM,if_true,aJ]
      by_cases h0:x.m=0
      . simp only [h0,dZ,du]; exact h1 (by simp [h0])
      . simp only [h0,eX,fD]; exact h2 (by rw [hfn]; simp [h0])
   refine XE _ (fun hn=>?_) fun hn=>?_
   rotate_left
   . simp only [bQ,if_false,bj,show (true == false)=false from rfl,aP,cC,qM,aM,if_true,aj]
     exact eH (bad (by rw [hQ,u9,hn]; rfl))
   rw [hn,Bool.true_and] at u9
   simp only [bQ,if_false,bj,iJ,aP,cI,aJ]
   refine fO j8 rfl ?_
   simp only [eI,aJ]
   refine XD _ (fun hm=>?_) fun hm=>?_
   rotate_left
   . simp only [bQ,if_false,aM,if_true,aj]
     exact eH (bad (by rw [hQ,u9,hm]; rfl))
   rw [hm] at u9
   rw [u9,Bool.true_and] at hQ
   simp only [bQ,if_false,aM,aj]
   refine eF ?_
   clear XE XD u9 bad
   rw [cZ]
   intro tz Uu
   have H7:nh jy [(b3,[v]),(b4,[.int .i64 (n:Nat)]),(b6,[.bool false]),(b7,dY x),(b8,oR f)] :=
    (((((show nh jy [] from fun p hp=>by cases hp).cons j8).cons j7).cons k6).cons k4).cons k3
   have FQ:(jy.new tz (.box [.aq])).box tz=some [.aq]:=aK
   have afu:=H7.fresh Uu
   have H8:=H7.HM (bB Uu (x:=.box [.aq]))
   generalize jy.new tz (.box [.aq])=vK at *
   clear Uu H7
   refine eO (H8 (b4,[.int .i64 (n:Nat)]) (by simp)) rfl ?_
   rw [dO]
   refine ⟨bK (by omega) (by omega),?_⟩
   rw [cZ]
   intro kz vU
   have WX:(vK.new kz (.box [.int .i64 0])).box kz=some [.int .i64 0]:=aK
   have abu:=(H8.cons FQ).fresh vU
   have H9:=H8.HM (bB vU (x:=.box [.int .i64 0]))
   have FQ:=(bB vU (x:=.box [.int .i64 0])).bg FQ
   generalize vK.new kz (.box [.int .i64 0])=te at *
   clear vU H8
   rw [dk WX]
   refine ⟨⟨rfl,rfl,by simp⟩,?_⟩
   have WB:∀ p ∈ [(b3,[v]),(b4,[.int .i64 (n:Nat)]),(b6,[.bool false]),(b7,dY x),(b8,oR f)],p.1 ≠ kz:=fun p hp=>abu p (List.mem_cons_of_mem _ hp)
   have NN:tz ≠ kz:=abu (tz,_) (List.mem_cons_self ..)
   have Zm:=H9.set WB (y:=.box (aA [AV.int .i64 0] 0 (ax (.int .i64 ((n:Int)+1)))))
   have FQ:(te.set kz (.box (aA [AV.int .i64 0] 0 (ax (.int .i64 ((n:Int)+1)))))).box tz=some [.aq]:=by rw [aY NN]; exact FQ
   have WX:(te.set kz (.box (aA [AV.int .i64 0] 0 (ax (.int .i64 ((n:Int)+1)))))).box kz=some [.int .i64 ((n:Int)+1)]:=by rw [a7]; rfl
   generalize te.set kz (.box (aA [AV.int .i64 0] 0 (ax (.int .i64 ((n:Int)+1)))))=yJ at *
   clear H9
   rw [pc (Zm (b3,[v]) (by simp))]
   refine ⟨by simp,?_⟩
   refine eO (Zm (b4,[.int .i64 (n:Nat)]) (by simp)) rfl ?_
   refine xZ (n:=n) (x:=x) hv hx (bK (by omega) (by omega)) fun bn be bt agA d1 d2 d3 f1 f2 f3 q1 q2 q3 zi=>?_
   simp only [bE]
   have H11:=(((Zm.HM zi).cons q3).cons q2).cons q1
   have FQ:=zi.bg FQ
   have afR:=zi.bg WX
   have abI:∀ b y,yJ.box b=some y->b ≠ bn/\b ≠ be/\b ≠ bt:=fun b y hb =>
    ⟨fun e=>cD hb (e ▸ f1),fun e=>cD hb (e ▸ f2),fun e=>cD hb (e ▸ f3)⟩
   have adX:∀ p ∈ [(bn,[AV.int .i64 (n:Nat)]),(be,[.int .i64 ((n:Int)+x.size)]),(bt,[v]),(b3,[v]),(b4,[.int .i64 (n:Nat)]),(b6,[.bool false]),(b7,dY x),(b8,oR f)],p.1 ≠ tz:=by
    intro p hp
    have g:=abI tz _ (by assumption)
    simp only [cJ] at hp
    rcases hp with rfl | rfl | rfl | hp
    . exact g.1.symm
    . exact g.2.1.symm
    . exact g.2.2.symm
    . exact afu p (by simpa using hp)
   have adY:∀ p ∈ [(bn,[AV.int .i64 (n:Nat)]),(be,[.int .i64 ((n:Int)+x.size)]),(bt,[v]),(b3,[v]),(b4,[.int .i64 (n:Nat)]),(b6,[.bool false]),(b7,dY x),(b8,oR f)],p.1 ≠ kz:=by
    intro p hp
    have g:=abI kz _ WX
    simp only [cJ] at hp
    rcases hp with rfl | rfl | rfl | hp
    . exact g.1.symm
    . exact g.2.1.symm
    . exact g.2.2.symm
    . exact WB p (by simpa using hp)
   generalize Pw:[(bn,[AV.int .i64 (n:Nat)]),(be,[.int .i64 ((n:Int)+x.size)]),(bt,[v]),(b3,[v]),(b4,[.int .i64 (n:Nat)]),(b6,[.bool false]),(b7,dY x),(b8,oR f)]=bs at *
   have mem:∀ {ad:St},nh ad bs->ad.box bn=some [.int .i64 (n:Nat)]/\ad.box be=some [.int .i64 ((n:Int)+x.size)]/\ad.box bt=some [v]/\ad.box b3=some [v]/\ad.box b4=some [.int .i64 (n:Nat)]/\ad.box b6=some [.bool false]/\ad.box b7=some (dY x)/\ad.box b8=some (oR f):=by
    intro ad hH
    subst Pw
    exact ⟨hH (bn,[.int .i64 (n:Nat)]) (by simp),hH (be,[.int .i64 ((n:Int)+x.size)]) (by simp),hH (bt,[v]) (by simp),hH (b3,[v]) (by simp),hH (b4,[.int .i64 (n:Nat)]) (by simp),hH (b6,[.bool false]) (by simp),hH (b7,dY x) (by simp),hH (b8,oR f) (by simp)⟩
   have hlp:∀ {ad:St} {o:Nat} {L:fL},nh ad bs->ad.loop o=some L->∀ p ∈ bs,p.1 ≠ o:=fun hH ho p hp=>bP (hH p hp) ho
   refine DD (fun ks ad=>nh ad bs/\(∃ vk,ad.box tz=some [vk]/\je U ad vk 5 1 ks.length (oU (iZ l ks)))/\ad.box kz=some [.int .i64 ((behind l (n+1) ks:Nat):Int)]/\ks.all (fun k=>decide (1 <= gw l k/\(k:Int)+gw l k <= n+x.size))=true) (fun ad=>ad.box b6=some [.bool false]/\kf l n x=false) hv hnl (by omega) (by omega)
    (fun ks ad hI=>⟨(mem hI.1).1,(mem hI.1).2.1,(mem hI.1).2.2.1⟩) (fun ks ad o L L' hI ho=>?_) (fun ks ad o L hI ho=>?_) (fun ad o L L' hJ ho=>?_) (fun ks jD y ad o L1 q hI hy aQ oT hnk sV si hL PM WN=>?_) (fun ks ad o L iE hI hL=>?_) (fun ad o L hJ hL=>?_) ⟨H11,⟨_,FQ,by simpa [iZ,oU] using je.nil (p8 _)⟩,by simpa [behind] using afR,rfl⟩
   . obtain ⟨hH,⟨vk,dG,Bl⟩,wE,cm⟩:=hI
     exact ⟨hH.set (hlp hH ho),⟨vk,by rw [aY (bP dG ho)]; exact dG,Bl.loop ho (p8 _)⟩,by rw [aY (bP wE ho)]; exact wE,cm⟩
   . obtain ⟨hH,⟨vk,dG,Bl⟩,wE,cm⟩:=hI
     have e:=bB ho (x:=.loop L)
     exact ⟨hH.HM e,⟨vk,e.bg dG,Bl.mono e⟩,e.bg wE,cm⟩
   . exact ⟨by rw [aY (bP hJ.1 ho)]; exact hJ.1,hJ.2⟩
   . obtain ⟨hH,⟨vk,dG,Bl⟩,wE,cm⟩:=hI
     obtain ⟨mn,me,mt,m3,m4,m6,m7,m8⟩:=mem hH
     refine fO dG rfl ?_
     refine fO m3 rfl ?_
     refine Ci hv hy fun r=>?_
     simp only [dJ,aJ,eD,s8,dY,gE,jQ]
     refine aeb rfl rfl ?_
     refine JZ Bl (m:=1) (l2:=[.int .u8 y.kind]) rfl rfl (by omega) (by omega) fun bh v' g2 k2=>?_
     have rq:∀ b z,ad.box b=some z->bh.live b=ad.live b/\bh.box b=some z:=fun b z hb=>by
      cases Bh:ad.live b with
      | none=>exact absurd Bh (cD hb)
      | some w =>
        have:=k2 b w (fun n' l' C7=>by
         rcases Bl.g with ⟨_,_,h3⟩ | ⟨τ,r1,r2,_⟩
         . rw [h3] at C7; cases C7
         . rw [r1] at C7; cases C7; exact eZ hb r2 rfl) Bh
        exact ⟨this,by rw [dD (this.trans Bh.symm)]; exact hb⟩
     refine ⟨fun b hb=>?_,?_⟩
     . simp only [eM,gD,jY,gu,cJ,List.not_mem_nil,or_false] at hb
       rcases hb with rfl | rfl
       . exact (rq _ _ m3).1
       . exact (rq _ _ dG).1
     have hH2:nh bh bs:=fun p hp=>(rq _ _ (hH p hp)).2
     have M6:=(rq _ _ wE).2
     have zB:=(rq _ _ dG).2
     have ux:v'.dh=true/\ax v'=[v']:=by
      rcases g2.g with ⟨h0,_,_⟩ | ⟨τ,r1,_,_⟩
      . omega
      . rw [r1]; exact ⟨rfl,rfl⟩
     rw [dk zB]
     refine ⟨⟨ux.1,by rw [ux.2]; rfl,by simp⟩,?_⟩
     have hH3:=hH2.set adX (y:=.box (aA [vk] 0 (ax v')))
     have Uq:(bh.set tz (.box (aA [vk] 0 (ax v')))).box kz=some [.int .i64 ((behind l (n+1) ks:Nat):Int)]:=by rw [aY NN.symm]; exact M6
     have ae9:(bh.set tz (.box (aA [vk] 0 (ax v')))).box tz=some [v']:=by rw [a7,ux.2]; rfl
     have g3:je U (bh.set tz (.box (aA [vk] 0 (ax v')))) v' 5 1 (ks.length+1) (oU (iZ l ks)++[.int .u8 y.kind]):=by
      refine ⟨?_,g2.z,g2.t,p8 _⟩
      rcases g2.g with g | ⟨τ,r1,r2,r3⟩
      . exact .inl g
      . exact .inr ⟨τ,r1,by rw [gY (eZ zB r2).symm]; exact r2,r3⟩
     have tA:(bh.set tz (.box (aA [vk] 0 (ax v')))).loop o=some L1:=by
      obtain ⟨_,kl⟩:=nT Bl.g k2
      rw [gq]; exact kl hL
      rw [dQ,if_neg (bP zB (kl hL)).symm]
     generalize bh.set tz (.box (aA [vk] 0 (ax v')))=bW at *
     clear g2 k2 rq hH2 M6 zB hH dG Bl wE mn me mt m3 m4 m6 m7 m8
     obtain ⟨mn,me,mt,m3,m4,m6,m7,m8⟩:=mem hH3
     refine fO m4 rfl ?_
     refine fO m7 rfl ?_
     rw [N5]
     refine ⟨bK (by omega) (by omega),?_⟩
     have agZ:=(dC.1 hy).1
     rw [mJ,ij,mQ,aJ]
     refine ⟨bK (by omega) (by omega),?_⟩
     refine fO m3 rfl ?_
     refine Ci hv hy fun r=>?_
     simp only [dJ,aJ,dY,gE,List.drop,s8,jQ]
     refine oN (qj _ _ _) ?_
     simp only [eI,aJ]
     have Lv:gw l jD=y.size.toNat:=by unfold gw; rw [hy]; rfl
     by_cases hwk:1 <= y.size/\y.size <= (n:Int)+x.size - jD
     . simp only [hwk,and_self,dZ,du]
       refine eF ?_
       refine eO m3 rfl ?_
       refine EV hv hy fun r=>?_
       simp only [dJ,aj,dY,gE,List.drop,oH,bC,dO]
       refine ⟨bK (by omega) (by omega),?_⟩
       rw [dk Uq]
       refine ⟨⟨rfl,rfl,by simp⟩,?_⟩
       refine PM _ ⟨hH3.set adY,⟨v',by rw [aY NN]; exact ae9,?_⟩,?_,?_⟩ (by omega) ?_
       . have:je U (bW.set kz (.box (aA [.int .i64 ((behind l (n+1) ks:Nat):Int)] 0 (ax (.int .i64 ((jD:Int)+y.size)))))) v' 5 1 (ks.length+1) (oU (iZ l ks)++[.int .u8 y.kind]):=by
          refine ⟨?_,g3.z,g3.t,p8 _⟩
          rcases g3.g with g | ⟨τ,r1,r2,r3⟩
          . exact .inl g
          . exact .inr ⟨τ,r1,by rw [gY (eZ Uq r2).symm]; exact r2,r3⟩
         rw [IW hy]
         simpa [oU] using this
       . rw [a7,A6,Lv]
         have:((jD+y.size.toNat:Nat):Int)=(jD:Int)+y.size:=by omega
         rw [this]; rfl
       . rw [List.all_append,cm]
         simp only [List.all_cons,List.all_nil,Bool.and_true,Bool.true_and,ee,Lv]
         omega
       . rw [gq]; exact tA
         rw [dQ,if_neg (bP Uq tA).symm]
     . simp only [hwk,eX,fD]
       refine eH ?_
       rw [dk m6]
       refine ⟨⟨rfl,rfl,by simp⟩,?_⟩
       refine WN _ ⟨by rw [a7]; rfl,?_⟩ ?_
       . obtain ⟨r',yT⟩:=si
         rw [hQ,yT,List.all_append,List.all_cons]
         have:decide (1 <= gw l jD/\(jD:Int)+gw l jD <= n+x.size)=false:=by
          rw [decide_eq_false_iff_not,Lv]; omega
         rw [this]; simp
       . rw [gq]; exact tA
         rw [dQ,if_neg (bP m6 tA).symm]
   . obtain ⟨hH,⟨vk,dG,Bl⟩,wE,cm⟩:=hI
     have hH':=hH.del (hlp hH hL)
     have M6:(ad.del o).box kz=some [.int .i64 ((behind l (n+1) ks:Nat):Int)]:=by rw [jr (bP wE hL)]; exact wE
     have zB:(ad.del o).box tz=some [vk]:=by rw [jr (bP dG hL)]; exact dG
     obtain ⟨mn,me,mt,m3,m4,m6,m7,m8⟩:=mem hH'
     have agI:ks.length <= l.length:=by rw [iE]; exact xV _ _ _ _
     have Bh:behind l (n+1) ks <= n+x.size.toNat+n+1:=by
      clear hQ
      rcases List.eq_nil_or_concat ks with h0 | ⟨ks',k,h0⟩
      . rw [h0]; simp [behind]
        try omega
      . rw [h0,List.concat_eq_append,A6]
        rw [h0,List.concat_eq_append,List.all_append,bS] at cm
        have:=cm.2
        simp only [List.all_cons,List.all_nil,Bool.and_true,ee] at this
        omega
     refine eO M6 rfl ?_
     refine eO m4 rfl ?_
     refine eO m7 rfl ?_
     rw [dO]
     refine ⟨bK (by omega) (by omega),?_⟩
     refine He ?_
     rw [<- iE] at hQ
     rw [cm,Bool.true_and] at hQ
     by_cases wH:((behind l (n+1) ks:Nat):Int)=n+x.size
     . rw [decide_eq_true wH,Bool.true_and] at hQ
       simp only [wH,dZ,bj,iJ,aP,cI,aZ,aJ,df]
       refine fO zB rfl ?_
       refine fO m8 rfl ?_
       refine eH ?_
       have ux:eP vk (iZ l ks).length (oU (iZ l ks)):=by
        have:(iZ l ks).length=ks.length:=by simp [iZ]
        rw [this]; exact Bl.sl
       have p7:=HY hf
       refine aaZ ux (by simp [iZ]; omega) p7.1 p7.2 fun te e9=>?_
       simp only [bE,aM,if_true,aj]
       exact ret _ te (p8 _) ⟨_,e9.bg m6⟩ hQ
     . rw [decide_eq_false wH,Bool.false_and] at hQ
       simp only [wH,eX,bj,show (false == true)=false from rfl,aP,cC,aM,bQ,if_false,aj]
       refine eF ?_
       exact ret false _ (p8 _) ⟨_,m6⟩ hQ
   . have h6:(ad.del o).box b6=some [.bool false]:=by rw [jr (bP hJ.1 hL)]; exact hJ.1
     rw [yo h6 rfl]
     refine al.mk ?_
     have:=h (ad.del o) (p8 _)
     rw [hJ.2] at this; exact this
end Go.Rip
namespace Go.Rip
open Go.Proofs Go.RowKit
theorem xG (ad:St):dm (bV ⟨.e,0⟩) ad:=fun b x h=>by cases h
theorem Qq {v:AV} {l:List Nd} {n:Nat} {x:Nd} (hv:eP v l.length (cF l)) (hc:closed v=true) (hx:l[n]?=some x) (hl:l.length <= 10000) (qR:x.text.length <= 3000):Pure K 131 [.agg [v],.int .i64 (n:Nat),p6] (.bool (kf l n x)) :=
 Pure.of (by simp [cT,closed,hc,show closed p6=true by kernel_rfl]) rfl (fun U=>rfl) fun R hR=>YF hv hx hl qR xG fun ad _=>hR ad
def lP (l:List Nd):Bool:=match l[0]? with | none=>false | some x0=>decide (x0.kind=1) && (decide (x0.size=((l.length:Nat):Int)) && (List.range l.length).all fun n=>match l[n]? with | some x=>kf l n x | none=>true)
theorem tS {l:List Nd} {x0:Nd} (h0:l[0]?=some x0):lP l=true ↔ (x0.kind=1/\x0.size=l.length/\∀ n x,l[n]?=some x->kf l n x=true):=by
 unfold lP
 rw [h0]
 simp only [bS,ee,fe,List.mem_range]
 refine and_congr_right fun _=>and_congr_right fun _=>⟨fun h n x hx=>?_,fun h n hn=>?_⟩
 . have:=h n (dC.1 hx).1
   rw [hx] at this; exact this
 . obtain ⟨x,hx⟩:∃ x,l[n]?=some x:=⟨l[n],by simp [hn]⟩
   rw [hx]; exact h n x hx
theorem QT {l:List Nd} {n:Nat} {x:Nd} (hx:l[n]?=some x) (h:kf l n x=false):lP l=false:=by
 cases h0:l[0]? with
 | none=>unfold lP; rw [h0]
 | some x0 =>
   cases hr:lP l with
   | false=>rfl
   | true=>rw [((tS h0).1 hr).2.2 n x hx] at h; cases h
theorem N6 {v:AV} {l:List Nd} (hv:eP v l.length (cF l)) (hc:closed v=true) (hl:l.length <= 10000) (qR:∀ x ∈ l,x.text.length <= 3000):Pure K 68 [.agg [v]] (.bool (lP l)):=by
 refine Pure.of (by simp [cT,closed,hc]) rfl (fun U=>rfl) fun R hR=>?_
 refine Vv ?_
 unfold Xt
 rw [hU rfl]
 intro b1 jM
 have m1:((bV ⟨.e,0⟩).new b1 (.box (ax (.agg [v])))).box b1=some [v]:=aK
 generalize (bV _).new b1 _=au at *
 clear jM
 refine kN (kN (fO m1 rfl ?_))
 rw [hv.len,aJ,bu,aJ]
 cases h0:l[0]? with
 | none =>
   have qP:l.length=0:=by simpa using h0
   have hq:lP l=false:=by unfold lP; rw [h0]
   simp only [qP,Int.natCast_zero,dZ,bj,show (true == false)=false from rfl,aP,cC,aM,if_true,qM,aJ]
   exact eH (al.mk (by rw [<- hq]; exact hR _))
 | some x0 =>
   have qP:0 < l.length:=(dC.1 h0).1
   have cr:¬ ((l.length:Int)=0):=by omega
   have hQ:lP l=(decide (x0.kind=1) && (decide (x0.size=((l.length:Nat):Int)) && (List.range l.length).all fun n=>match l[n]? with | some x=>kf l n x | none=>true)):=by unfold lP; rw [h0]
   simp only [cr,eX,bj,iJ,aP,cI]
   refine kN (kN (fO m1 rfl ?_))
   refine Ci (i:=0) hv h0 fun r=>?_
   simp only [dJ,aJ,eD,s8,dY,gE,jQ,dS,aM,bQ,if_false]
   by_cases hk:x0.kind=1
   rotate_left
   . simp only [hk,eX,fD,bj,show (true == false)=false from rfl,aP,cC,aM,if_true,qM,aJ]
     exact eH (al.mk (by rw [show false=lP l by rw [hQ]; simp [hk]]; exact hR _))
   simp only [hk,dZ,du,bj,iJ,aP,cI]
   refine kN (kN (fO m1 rfl ?_))
   refine Ci (i:=0) hv h0 fun r=>?_
   simp only [dJ,aJ,List.drop,s8,dY,gE,jQ]
   refine kN (kN (fO m1 rfl ?_))
   rw [hv.len,aJ,dS,aJ]
   simp only [aM,bQ,if_false,aJ]
   by_cases hs:x0.size=l.length
   rotate_left
   . simp only [hs,eX,fD]
     exact eH (al.mk (by rw [show false=lP l by rw [hQ]; simp [hk,hs]]; exact hR _))
   simp only [hs,dZ,du]
   refine eF (CR.go ?_)
   simp only [aZ,aj,df]
   refine eO m1 rfl ?_
   rw [hv.len,aj]
   refine ⟨fun m v1 v3 hZ v37 ad=>∃ i:Nat,m=l.length - i/\i <= l.length/\v1=.box b1 0/\v3=p6/\hZ=.int .i64 l.length/\v37=.int .i64 (i:Nat)/\ad=au/\∀ j x,j < i->l[j]?=some x->kf l j x=true,⟨_,0,rfl,by omega,rfl,rfl,rfl,rfl,rfl,fun j x h=>by omega⟩,?_⟩
   rintro m v1 v3 hZ v37 ad ⟨i,rfl,hi,rfl,rfl,rfl,rfl,rfl,cm⟩
   simp only [cq,aj]
   refine iv (fun aQ=>?_) fun lI=>?_
   . have aQ:i < l.length:=by omega
     obtain ⟨x,hx⟩:∃ x,l[i]?=some x:=⟨l[i],by simp [aQ]⟩
     rw [pc m1]
     refine ⟨by simp,?_⟩
     refine (Qq hv hc hx hl (qR x (gr hx))).go ?_
     simp only [eI,aj]
     cases hq:kf l i x with
     | false=>exact eH (al.mk (by rw [<- QT hx hq]; exact hR _))
     | true =>
       refine eF ?_
       rw [dO]
       refine ⟨bK (by omega) (by omega),l.length - (i+1),by omega,i+1,rfl,by omega,rfl,rfl,rfl,by simp,rfl,fun j y hj hy=>?_⟩
       by_cases h:j=i
       . subst h; rw [hx] at hy; cases hy; exact hq
       . exact cm j y (by omega) hy
   . refine al.mk ?_
     have:lP l=true:=(tS h0).2 ⟨hk,hs,fun n x hx=>cm n x (by have:=(dC.1 hx).1; omega) hx⟩
     rw [<- this]; exact hR _
theorem MI {v:AV} {l:List Nd} (hv:eP v l.length (cF l)) (hc:closed v=true) (hl:l.length <= 10000) (qR:∀ x ∈ l,x.text.length <= 3000):Pure K 30 [.agg [v]] (.int .i64 (gp l)):=by
 refine Pure.of (by simp [cT,closed,hc]) rfl (fun U=>rfl) fun R hR=>?_
 refine Vm ?_
 unfold Xk
 rw [hU rfl]
 intro b1 jM
 have m1:((bV ⟨.e,0⟩).new b1 (.box (ax (.agg [v])))).box b1=some [v]:=aK
 generalize (bV _).new b1 _=au at *
 clear jM
 simp only [aZ,aj,df]
 refine eO m1 rfl ?_
 rw [hv.len,aj]
 simp only [eQ,aj]
 refine iv (fun wM=>?_) fun hle=>?_
 . refine al.mk ?_
   have:gp l=5:=by unfold gp; rw [if_pos (by omega)]
   rw [<- this]; exact hR _
 rw [pc m1]
 refine ⟨by simp,?_⟩
 refine pM [v] rfl ?_
 refine (N6 hv hc hl qR).go ?_
 simp only [eI,aj]
 have h9:¬ 900 < l.length:=by omega
 cases hq:lP l with
 | false =>
   refine eH (al.mk ?_)
   have:gp l=4:=tM h9 fun h=>by
    obtain ⟨t,rfl,h2,h3⟩:=h
    obtain ⟨x,r,e,_⟩:=t.qL
    have h0:t.flat[0]?=some x:=by rw [e]; rfl
    rw [(tS h0).2 ((Gk h0).2 ⟨t,rfl,h2,h3⟩)] at hq
    cases hq
   rw [<- this]; exact hR _
 | true =>
   refine eF ?_
   rw [pc m1]
   refine ⟨by simp,?_⟩
   cases h0:l[0]? with
   | none=>unfold lP at hq; rw [h0] at hq; cases hq
   | some x0 =>
     have hr:=(tS h0).1 hq
     obtain ⟨t,rfl,h2,h3⟩:=(Gk h0).1 hr
     have cr:t.flat ≠ []:=by intro e; rw [e] at h0; cases h0
     have fh:=(BC cr (by
      obtain ⟨y,r,e,_⟩:=t.qL
      rw [e] at h0 ⊢; simp at h0; subst h0; have:=hr.2.1; rw [e] at this; exact this) hr.2.2)
     refine (CS hv hc (by omega) cr (fun x hx=>?_) ?_).go ?_
     . obtain ⟨n,hn,rfl⟩:=List.getElem_of_mem hx
       have:=fh.1.2.2 n t.flat[n] (by simp [hn])
       omega
     . have:=fh.1.2.1; omega
     . rw [vT]
       have Uw:gp t.flat=if 60 < t.deep\/24 < t.kids.length then 5 else 0:=by
        rw [zd t h9]; unfold BY; rw [if_neg (by simp [h2,h3])]
       rw [Uw] at hR
       by_cases hg:60 < t.deep\/24 < t.kids.length
       . rw [if_pos hg] at hR
         have:(decide (60 < t.deep) || decide (24 < t.kids.length))=true:=by simpa using hg
         rw [this]
         exact eH (al.mk (hR _))
       . rw [if_neg hg] at hR
         have:(decide (60 < t.deep) || decide (24 < t.kids.length))=false:=by simpa using hg
         rw [this]
         exact eF (al.mk (hR _))
end Go.Rip
