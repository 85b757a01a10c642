/- Lemmas for the proof: no conditions. -/
import Derived.Test.YtnfpmiiopiinbaaGreatDoorRipZz
import Derived.Test.YtnfpmiiopiinbaaGreatDoorRipY
import Derived.Test.YtnfpmiiopiinbaaGreatDoorRipQ
set_option linter.unusedVariables false
set_option linter.unusedSimpArgs false
set_option linter.loopingSimpArgs false
namespace Go.Rip
open Go.Proofs Go.RowKit
def wo:List Int:=(List.range 37).map fun i=>((i:Nat):Int)+1
theorem Mo {k:Int} (h:k < 1\/37 < k):∀ j ∈ wo,j ≠ k:=by
 intro j hj
 simp only [wo,List.mem_map,List.mem_range] at hj
 obtain ⟨i,hi,rfl⟩:=hj
 omega
theorem OF:∃ vs,p4=.fY (wo.map (.int .u8)) vs:=⟨_,by unfold p4 wo; rfl⟩
theorem look_ok (k:Int) (U:St):et (some (.i,204)) (some (.agg [AV.bool false,AV.bool false,AV.bool false,AV.ah])) p4 (.int .u8 k) true U=.val (match bC k with | some f=>.aH [.agg (oJ f),.bool true] | none=>.aH [JE,.bool false]):=by
 obtain ⟨vs,zy⟩:=OF
 rw [zy]
 show nT .i (.int .u8 k) JE true (wo.map (.int .u8)) vs=_
 by_cases h:k < 1\/37 < k
 . rw [vI h]
   exact FM wo vs (Mo h)
 . obtain ⟨n,rfl⟩:∃ n:Nat,k=n:=⟨k.toNat,by omega⟩
   have:=Nf ⟨n,by omega⟩
   unfold PU at this
   rw [zy] at this
   simp only at this
   split at this
   . rename_i v hv
     rw [hv,wh this]
     cases bC n <;> rfl
   . cases this
theorem eJ.Ul {U:St} {v:AV} {l:List Nd} (h:eJ v l.length (bK l)):oI U v l:=by
 rcases h with ⟨h0,_,h1⟩ | ⟨c,h1⟩
 . exact .inl (.inl ⟨h1,sv.1 h0⟩)
 . exact .inl (.inr ⟨c,h1⟩)
theorem HB {k:Int} {f:gd} (h:bC k=some f):f.kids.length <= 100/\∀ s ∈ f.kids,s.least <= 1000/\s.nV <= 1000:=by
 have hk:1 <= k/\k <= 37:=by
  by_cases h1:k < 1\/37 < k
  . rw [vI h1] at h; cases h
  . omega
 obtain ⟨n,rfl⟩:∃ n:Nat,k=n:=⟨k.toNat,by omega⟩
 have all:∀ n:Fin 38,(match bC ((n.val:Nat):Int) with | some f=>decide (f.kids.length <= 100) && f.kids.all fun s=>decide (s.least <= 1000/\s.nV <= 1000) | none=>true)=true:=by decide +kernel
 have:=all ⟨n,by omega⟩
 simp only [h,bX,dS,fl] at this
 exact this
def mQ (U:St) (bs:List (Nat × List AV)):Prop:=∀ p ∈ bs,U.box p.1=some p.2
section
variable {U ad:St} {bs:List (Nat × List AV)} {b:Nat} {x:List AV}
theorem mQ.A6 (h:mQ U bs) (e:cW U ad):mQ ad bs:=fun p hp=>e.aX (h p hp)
theorem mQ.cons (h:mQ U bs) (k:U.box b=some x):mQ U ((b,x)::bs):=fun p hp=>by
 rcases cD.1 hp with rfl | hp
 . exact k
 . exact h p hp
theorem mQ.set (h:mQ U bs) (hb:∀ p ∈ bs,p.1 ≠ b) {y:Live}:mQ (U.set b y) bs:=fun p hp=>by
 rw [aO (hb p hp)]; exact h p hp
theorem mQ.del (h:mQ U bs) (hb:∀ p ∈ bs,p.1 ≠ b):mQ (U.del b) bs:=fun p hp=>by
 rw [jg (hb p hp)]; exact h p hp
theorem mQ.fresh (h:mQ U bs) (f:U.dD b):∀ p ∈ bs,p.1 ≠ b:=fun p hp=>f.bP (h p hp)
end
theorem adX {e:TypeId} {x:AV} {z:AV} {kq:AV->Prop} (hx:x.dc=true) (hc:au x=[x]) (hk:kq (.vec 1 .full [x])):aB K (ar (some (e,1)) (some [z]) 1 false [(0,x)]) kq:=by
 rw [ya]
 refine ⟨by omega,?_⟩
 rw [uB (o:=0) (s:=1) rfl]
 refine ⟨⟨hx,by rw [hc]; rfl,by simp [bN]⟩,?_⟩
 rw [AI,hc]
 exact ⟨rfl,hk⟩
theorem gk.loop {aq U:St} {v:AV} {e:TypeId} {sz n:Nat} {l:List AV} {o:Nat} {L L':fF} (h:gk aq U v e sz n l) (ho:U.loop o=some L) (hx:cW aq (U.set o (.loop L'))):gk aq (U.set o (.loop L')) v e sz n l:=by
 refine ⟨?_,h.z,h.t,hx⟩
 rcases h.g with g | ⟨τ,r1,r2,r3⟩
 . exact .inl g
 . refine .inr ⟨τ,r1,?_,r3⟩
   rw [gX]; exact r2
   rintro rfl
   unfold St.tok at r2; unfold St.loop at ho
   split at ho
   . rename_i e; simp [e] at r2
   . cases ho
theorem Is {l:List Nd} {ks:List Nat} {k:Nat} {x:Nd} (h:l[k]?=some x):iU l (ks++[k])=iU l ks++[x.kind]:=by simp [iU,h]
theorem Yl {U:St} {R:cR->St->Prop} {v:AV} {l:List Nd} {n:Nat} {x:Nd} (hv:eJ v l.length (bK l)) (hx:l[n]?=some x) (hl:l.length <= 10000) (l8:x.text.length <= 3000) (p6:∀ ad,cW U ad)
 (h:∀ ad,cW U ad->R (.ret (.bool (jV l n x))) ad):ae K 131 [.agg [v],.int .i64 (n:Nat),p4] U R:=by
 refine QT ?_
 unfold QS
 have hnl:=(dx.1 hx).1
 rw [fA rfl]
 intro b3 lq
 have k3:(U.new b3 (.box (au (.agg [v])))).box b3=some [v]:=aG
 have e1:=bg lq (x:=.box (au (.agg [v])))
 generalize U.new b3 (.box (au (.agg [v])))=aR at *
 rw [fA rfl]
 intro b4 gN
 have k4:(aR.new b4 (.box (au (.int .i64 (n:Nat))))).box b4=some [.int .i64 (n:Nat)]:=aG
 have IE:=gN.bP k3
 have e2:=e1.new gN (x:=.box (au (.int .i64 (n:Nat))))
 have k3:=(bg gN (x:=.box (au (.int .i64 (n:Nat))))).aX k3
 generalize aR.new b4 (.box (au (.int .i64 (n:Nat))))=a7 at *
 rw [cz]
 intro b6 rU
 have k6:(a7.new b6 (.box [.bool false])).box b6=some [.bool false]:=aG
 have n36:=rU.bP k3
 have n46:=rU.bP k4
 have f6:U.live b6=none:=e2.fresh rU.1
 have e3:=e2.new rU (x:=.box [.bool false])
 have k3:=(bg rU (x:=.box [.bool false])).aX k3
 have k4:=(bg rU (x:=.box [.bool false])).aX k4
 generalize a7.new b6 (.box [.bool false])=bO at *
 simp only [aZ,al,cU]
 refine dY k3 rfl ?_
 refine dY k4 rfl ?_
 refine ED hv hx fun r=>?_
 rw [tZ]
 refine ⟨by simp [db],?_⟩
 have HF:(db x++r).take 6=db x:=by simp [db]
 rw [HF,cz]
 intro b7 mG
 have k7:(bO.new b7 (.box [AV.int .u8 0,AV.str [],AV.int .i64 0,AV.int .i64 0,AV.int .i64 0,AV.int .i64 0])).box b7=some [AV.int .u8 0,AV.str [],AV.int .i64 0,AV.int .i64 0,AV.int .i64 0,AV.int .i64 0]:=aG
 have n37:=mG.bP k3
 have WC:=mG.bP k4
 have n67:=mG.bP k6
 have f7:U.live b7=none:=e3.fresh mG.1
 have e4:=e3.new mG (x:=.box [AV.int .u8 0,AV.str [],AV.int .i64 0,AV.int .i64 0,AV.int .i64 0,AV.int .i64 0])
 have en:=bg mG (x:=.box [AV.int .u8 0,AV.str [],AV.int .i64 0,AV.int .i64 0,AV.int .i64 0,AV.int .i64 0])
 have k3:=en.aX k3
 have k4:=en.aX k4
 have k6:=en.aX k6
 clear en
 generalize bO.new b7 (.box [AV.int .u8 0,AV.str [],AV.int .i64 0,AV.int .i64 0,AV.int .i64 0,AV.int .i64 0])=cG at *
 rw [cI k7]
 refine ⟨⟨rfl,rfl,by simp [db]⟩,?_⟩
 have j7:(cG.set b7 (.box (ay [AV.int .u8 0,AV.str [],AV.int .i64 0,AV.int .i64 0,AV.int .i64 0,AV.int .i64 0] 0 (au (.agg (db x)))))).box b7=some (db x):=by rw [aV]; rfl
 have k3:(cG.set b7 (.box (ay [AV.int .u8 0,AV.str [],AV.int .i64 0,AV.int .i64 0,AV.int .i64 0,AV.int .i64 0] 0 (au (.agg (db x)))))).box b3=some [v]:=by rw [aO n37]; exact k3
 have k4:(cG.set b7 (.box (ay [AV.int .u8 0,AV.str [],AV.int .i64 0,AV.int .i64 0,AV.int .i64 0,AV.int .i64 0] 0 (au (.agg (db x)))))).box b4=some [.int .i64 (n:Nat)]:=by rw [aO WC]; exact k4
 have k6:(cG.set b7 (.box (ay [AV.int .u8 0,AV.str [],AV.int .i64 0,AV.int .i64 0,AV.int .i64 0,AV.int .i64 0] 0 (au (.agg (db x)))))).box b6=some [.bool false]:=by rw [aO n67]; exact k6
 have e5:=e4.set f7 (x:=.box (ay [AV.int .u8 0,AV.str [],AV.int .i64 0,AV.int .i64 0,AV.int .i64 0,AV.int .i64 0] 0 (au (.agg (db x)))))
 generalize cG.set b7 (.box (ay [AV.int .u8 0,AV.str [],AV.int .i64 0,AV.int .i64 0,AV.int .i64 0,AV.int .i64 0] 0 (au (.agg (db x)))))=di at *
 clear k7 lq gN rU mG e1 e2 e3 e4
 refine dY j7 rfl ?_
 rw [look_ok,al]
 have ret:∀ (q:Bool) (ad:St),cW U ad->(∃ y,ad.box b6=some [y])->jV l n x=q->(aF (some (false,1)) (.box b6 0) (.bool q) ad).wp K ad (fun _ U=>bq (some (false,1)) (.box b6 0) U fun r0=>ak R r0 U) (aa R):=by
  intro q ad e ⟨y,hy⟩ hq
  rw [cI hy]
  refine ⟨⟨rfl,rfl,by simp⟩,?_⟩
  rw [ye aV rfl]
  subst hq
  exact ak.mk (h _ (e.set f6))
 cases hf:bC x.kind with
 | none =>
   have hq:jV l n x=false:=by unfold jV; rw [hf]
   simp only [bu,List.drop,bA,JE]
   rw [cz]
   intro b8 rn
   have k8:(di.new b8 (.box [AV.bool false,AV.bool false,AV.bool false,AV.ah])).box b8=some [AV.bool false,AV.bool false,AV.bool false,AV.ah]:=aG
   have n68:=rn.bP k6
   have e6:=e5.new rn (x:=.box [AV.bool false,AV.bool false,AV.bool false,AV.ah])
   have f8:U.live b8=none:=e5.fresh rn.1
   have k6:=(bg rn (x:=.box [AV.bool false,AV.bool false,AV.bool false,AV.ah])).aX k6
   generalize di.new b8 (.box [AV.bool false,AV.bool false,AV.bool false,AV.ah])=mK at *
   rw [cI k8]
   refine ⟨⟨rfl,rfl,by simp⟩,?_⟩
   simp only [ey,al,eQ,bf,show (true == false)=false from rfl,aN,cF,qM,aM,if_true]
   exact dP (ret false _ (e6.set f8) ⟨.bool false,by rw [aO n68]; exact k6⟩ hq)
 | some f =>
   simp only [bu,List.drop,bA]
   rw [cz]
   intro b8 rn
   have k8:(di.new b8 (.box [AV.bool false,AV.bool false,AV.bool false,AV.ah])).box b8=some [AV.bool false,AV.bool false,AV.bool false,AV.ah]:=aG
   have n38:=rn.bP k3
   have n48:=rn.bP k4
   have n68:=rn.bP k6
   have n78:=rn.bP j7
   have e6:=e5.new rn (x:=.box [AV.bool false,AV.bool false,AV.bool false,AV.ah])
   have f8:U.live b8=none:=e5.fresh rn.1
   have en:=bg rn (x:=.box [AV.bool false,AV.bool false,AV.bool false,AV.ah])
   have k3:=en.aX k3
   have k4:=en.aX k4
   have k6:=en.aX k6
   have j7:=en.aX j7
   clear en
   generalize di.new b8 (.box [AV.bool false,AV.bool false,AV.bool false,AV.ah])=mK at *
   have Bg:(oJ f).length=4:=rfl
   rw [cI k8]
   refine ⟨⟨rfl,rfl,by simp [Bg]⟩,?_⟩
   have j8:(mK.set b8 (.box (ay [AV.bool false,AV.bool false,AV.bool false,AV.ah] 0 (au (.agg (oJ f)))))).box b8=some (oJ f):=by rw [aV]; rfl
   have k3:(mK.set b8 (.box (ay [AV.bool false,AV.bool false,AV.bool false,AV.ah] 0 (au (.agg (oJ f)))))).box b3=some [v]:=by rw [aO n38]; exact k3
   have k4:(mK.set b8 (.box (ay [AV.bool false,AV.bool false,AV.bool false,AV.ah] 0 (au (.agg (oJ f)))))).box b4=some [.int .i64 (n:Nat)]:=by rw [aO n48]; exact k4
   have k6:(mK.set b8 (.box (ay [AV.bool false,AV.bool false,AV.bool false,AV.ah] 0 (au (.agg (oJ f)))))).box b6=some [.bool false]:=by rw [aO n68]; exact k6
   have j7:(mK.set b8 (.box (ay [AV.bool false,AV.bool false,AV.bool false,AV.ah] 0 (au (.agg (oJ f)))))).box b7=some (db x):=by rw [aO n78]; exact j7
   have e7:=e6.set f8 (x:=.box (ay [AV.bool false,AV.bool false,AV.bool false,AV.ah] 0 (au (.agg (oJ f)))))
   generalize mK.set b8 (.box (ay [AV.bool false,AV.bool false,AV.bool false,AV.ah] 0 (au (.agg (oJ f)))))=jo at *
   clear k8 rn e5 e6
   have hQ:jV l n x=(decide (1 <= x.size/\x.size <= (l.length:Int) - n) && (ee x f && ((fj l ((n:Int)+x.size) l.length (n+1)).all (fun k=>decide (1 <= gi l k/\(k:Int)+gi l k <= n+x.size)) &&
    (decide (((behind l (n+1) (fj l ((n:Int)+x.size) l.length (n+1)):Nat):Int)=n+x.size) && dQ (iU l (fj l ((n:Int)+x.size) l.length (n+1))) f.kids)))):=by unfold jV; rw [hf]
   simp only [ey,al,c8,bf,gR,aN,cx,aJ]
   have hlen:cw (some false) v=.val (.int .i64 l.length):=hv.len
   refine kJ (fK k3 rfl ?_)
   rw [hlen,aJ]
   refine fK k4 rfl ?_
   rw [kT,gL,mE,aJ]
   refine ⟨bI (by omega) (by omega),?_⟩
   refine kJ (fK j7 rfl (oF (qh _ _ _) ?_))
   simp only [ey,aJ,aM,bU,if_false,al]
   have bad:jV l n x=false->(aF (some (false,1)) (.box b6 0) (.bool false) jo).wp K jo (fun _ U=>bq (some (false,1)) (.box b6 0) U fun r0=>ak R r0 U) (aa R):=fun hq=>ret false _ e7 ⟨_,k6⟩ hq
   by_cases hw:1 <= x.size/\x.size <= (l.length:Int) - n
   rotate_left
   . simp only [hw,eB,eQ,bf,show (true == false)=false from rfl,aN,cF,qM,aM,if_true,al]
     exact dP (bad (by rw [hQ,decide_eq_false hw]; rfl))
   rw [decide_eq_true hw,Bool.true_and] at hQ
   simp only [hw,du,c8,bf,gR,aN,cx]
   simp only [and_self,du,c8,bf,gR,aN,cx]
   refine kJ (fK j8 rfl (kJ (fK j7 rfl ?_)))
   rw [vE,aJ,Hc,aJ]
   have hwt:(!decide (x.text=w_))=decide (x.text ≠ []):=by
    by_cases h:x.text=[] <;> simp [h,w_]
   rw [hwt]
   simp only [aM,bU,if_false,al]
   have uY:ee x f=((f.text == decide (x.text ≠ [])) && ((!f.text || kI x.text) && (dH x.n && (dH x.m && ((f.n || decide (x.n=0)) && (f.m || decide (x.m=0))))))):=by
    unfold ee
    have e0:(x.text != [])=decide (x.text ≠ []):=by by_cases h:x.text=[] <;> simp [h]
    have e1:(x.n == 0)=decide (x.n=0):=by by_cases h:x.n=0 <;> simp [h]
    have e2:(x.m == 0)=decide (x.m=0):=by by_cases h:x.m=0 <;> simp [h]
    rw [e0,e1,e2]; simp only [Bool.and_assoc]
   cases ht:(f.text != decide (x.text ≠ [])) with
   | true =>
     simp only [bf,show (true == false)=false from rfl,aN,cF,qM,aM,if_true,al]
     refine dP (bad ?_)
     have:(f.text == decide (x.text ≠ []))=false:=by revert ht; cases f.text <;> cases decide (x.text ≠ []) <;> simp
     rw [hQ,uY,this]; rfl
   | false =>
   have qP:(f.text == decide (x.text ≠ []))=true:=by revert ht; cases f.text <;> cases decide (x.text ≠ []) <;> simp
   rw [qP,Bool.true_and] at uY
   simp only [bf,gR,aN,cx]
   refine kJ (fK j8 rfl ?_)
   simp only [aJ]
   have nm:∀ (A:Prop),((!f.text || kI x.text)=true->A) ->
    ao K (aP (.bool f.text) true) (af (some 1) (.box b7 0)) (fun o0 =>
    ao K (aP (.bool f.text) true) (aj (some (false,1)) o0 jo) (fun v53 =>
    ao K (aP (.bool f.text) true) (aD.enter 208 [v53]) (fun mJ =>
    ao K (aP (.bool f.text) true) (kr .not mJ) (fun nD =>
    aB K (bQ (.bool f.text) nD (.bool false)) (fun qg =>
    aw (if false=true then AV.bool true else qg) ((aF (some (false,1)) (.box b6 0) (.bool false) jo).wp K jo (fun _ U=>bq (some (false,1)) (.box b6 0) U fun r0=>ak R r0 U) (aa R)) A))))):=by
    intro A hA
    cases KP:f.text with
    | false =>
      simp only [bf,show (false == true)=false from rfl,aN,cF,aM,bU,if_false,aJ,al]
      exact dC (hA (by rw [KP]; rfl))
    | true =>
      simp only [bf,gR,aN,cx]
      refine kJ (fK j7 rfl (oF (Nl _ l8) ?_))
      simp only [ey,aJ,aM,if_true,bU,if_false,al]
      cases Fj:kI x.text with
      | true=>exact dC (hA (by rw [KP,Fj]; rfl))
      | false=>exact dP (bad (by rw [hQ,uY,KP,Fj]; rfl))
   refine nm _ fun Fj=>?_
   clear nm
   rw [Fj,Bool.true_and] at uY
   simp only [aZ,al,cU]
   refine dY j7 rfl ((qh _ _ _).go ?_)
   have OY:∀ a:Int,decide (0 <= a/\a <= 1000000)=dH a:=fun _=>rfl
   rw [OY]
   simp only [ey,al]
   cases hN:dH x.n with
   | false =>
     simp only [eQ,bf,show (true == false)=false from rfl,aN,cF,qM,aM,if_true,al]
     exact dP (bad (by rw [hQ,uY,hN]; rfl))
   | true =>
   rw [hN,Bool.true_and] at uY
   simp only [c8,bf,gR,aN,cx,aJ]
   refine fK j7 rfl (oF (qh _ _ _) ?_)
   rw [OY]
   simp only [ey,aJ,aM,bU,if_false,al]
   cases hM:dH x.m with
   | false =>
     simp only [eQ,bf,show (true == false)=false from rfl,aN,cF,qM,aM,if_true,al]
     exact dP (bad (by rw [hQ,uY,hM]; rfl))
   | true =>
   rw [hM,Bool.true_and] at uY
   simp only [c8,bf,gR,aN,cx,aJ]
   refine fK j8 rfl ?_
   simp only [ey,aJ]
   have Xk:∀ (kq:AV->Prop),((f.n || decide (x.n=0))=true->kq (.bool false))->((f.n || decide (x.n=0))=false->kq (.bool true)) ->
    ao K (aP (.bool !f.n) true) (.val (.box b7 2)) (fun BK=>ao K (aP (.bool !f.n) true) (aj (some (false,1)) BK jo) fun uL=>ao K (aP (.bool !f.n) true) (ax .neq (BT.mk false false false none false) true uL (AV.int .i64 0)) fun v75 =>
     aB K (bQ (.bool !f.n) v75 (.bool false)) kq):=by
    intro kq h1 h2
    cases hfn:f.n with
    | true =>
      simp only [c8,bf,show (false == true)=false from rfl,aN,cF,aM,bU,if_false,aJ]
      exact h1 (by rw [hfn]; rfl)
    | false =>
      simp only [eQ,bf,gR,aN,cx,aJ]
      refine fK j7 rfl ?_
      rw [dp,aJ]
      simp only [aM,if_true,aJ]
      by_cases h0:x.n=0
      . simp only [h0,du,c8]; exact h1 (by simp [h0])
      . simp only [h0,eB,eQ]; exact h2 (by rw [hfn]; simp [h0])
   have Xj:∀ (kq:AV->Prop),((f.m || decide (x.m=0))=true->kq (.bool false))->((f.m || decide (x.m=0))=false->kq (.bool true)) ->
    ao K (aP (.bool !f.m) true) (.val (.box b7 3)) (fun BK=>ao K (aP (.bool !f.m) true) (aj (some (false,1)) BK jo) fun uL=>ao K (aP (.bool !f.m) true) (ax .neq (BT.mk false false false none false) true uL (AV.int .i64 0)) fun v75 =>
     aB K (bQ (.bool !f.m) v75 (.bool false)) kq):=by
    intro kq h1 h2
    cases hfn:f.m with
    | true =>
      simp only [c8,bf,show (false == true)=false from rfl,aN,cF,aM,bU,if_false,aJ]
      exact h1 (by rw [hfn]; rfl)
    | false =>
      simp only [eQ,bf,gR,aN,cx,aJ]
      refine fK j7 rfl ?_
      rw [dp,aJ]
      simp only [aM,if_true,aJ]
      by_cases h0:x.m=0
      . simp only [h0,du,c8]; exact h1 (by simp [h0])
      . simp only [h0,eB,eQ]; exact h2 (by rw [hfn]; simp [h0])
   refine Xk _ (fun hn=>?_) fun hn=>?_
   rotate_left
   . simp only [bU,if_false,bf,show (true == false)=false from rfl,aN,cF,qM,aM,if_true,al]
     exact dP (bad (by rw [hQ,uY,hn]; rfl))
   rw [hn,Bool.true_and] at uY
   simp only [bU,if_false,bf,gR,aN,cx,aJ]
   refine fK j8 rfl ?_
   simp only [ey,aJ]
   refine Xj _ (fun hm=>?_) fun hm=>?_
   rotate_left
   . simp only [bU,if_false,aM,if_true,al]
     exact dP (bad (by rw [hQ,uY,hm]; rfl))
   rw [hm] at uY
   rw [uY,Bool.true_and] at hQ
   simp only [bU,if_false,aM,al]
   refine dC ?_
   clear Xk Xj uY bad
   rw [cz]
   intro tq TT
   have H7:mQ jo [(b3,[v]),(b4,[.int .i64 (n:Nat)]),(b6,[.bool false]),(b7,db x),(b8,oJ f)] :=
    (((((show mQ jo [] from fun p hp=>by cases hp).cons j8).cons j7).cons k6).cons k4).cons k3
   have FA:(jo.new tq (.box [.ah])).box tq=some [.ah]:=aG
   have afm:=H7.fresh TT
   have H8:=H7.A6 (bg TT (x:=.box [.ah]))
   generalize jo.new tq (.box [.ah])=vA at *
   clear TT H7
   refine dY (H8 (b4,[.int .i64 (n:Nat)]) (by simp)) rfl ?_
   rw [dN]
   refine ⟨bI (by omega) (by omega),?_⟩
   rw [cz]
   intro ik sh
   have Wv:(vA.new ik (.box [.int .i64 0])).box ik=some [.int .i64 0]:=aG
   have aba:=(H8.cons FA).fresh sh
   have H9:=H8.A6 (bg sh (x:=.box [.int .i64 0]))
   have FA:=(bg sh (x:=.box [.int .i64 0])).aX FA
   generalize vA.new ik (.box [.int .i64 0])=tb at *
   clear sh H8
   rw [cI Wv]
   refine ⟨⟨rfl,rfl,by simp⟩,?_⟩
   have V8:∀ p ∈ [(b3,[v]),(b4,[.int .i64 (n:Nat)]),(b6,[.bool false]),(b7,db x),(b8,oJ f)],p.1 ≠ ik:=fun p hp=>aba p (List.mem_cons_of_mem _ hp)
   have M7:tq ≠ ik:=aba (tq,_) (List.mem_cons_self ..)
   have Y3:=H9.set V8 (y:=.box (ay [AV.int .i64 0] 0 (au (.int .i64 ((n:Int)+1)))))
   have FA:(tb.set ik (.box (ay [AV.int .i64 0] 0 (au (.int .i64 ((n:Int)+1)))))).box tq=some [.ah]:=by rw [aO M7]; exact FA
   have Wv:(tb.set ik (.box (ay [AV.int .i64 0] 0 (au (.int .i64 ((n:Int)+1)))))).box ik=some [.int .i64 ((n:Int)+1)]:=by rw [aV]; rfl
   generalize tb.set ik (.box (ay [AV.int .i64 0] 0 (au (.int .i64 ((n:Int)+1)))))=yA at *
   clear H9
   rw [o5 (Y3 (b3,[v]) (by simp))]
   refine ⟨by simp,?_⟩
   refine dY (Y3 (b4,[.int .i64 (n:Nat)]) (by simp)) rfl ?_
   refine xP (n:=n) (x:=x) hv hx (bI (by omega) (by omega)) fun bn be bt agu d1 d2 d3 f1 f2 f3 q1 q2 q3 zg=>?_
   simp only [bB]
   have H11:=(((Y3.A6 zg).cons q3).cons q2).cons q1
   have FA:=zg.aX FA
   have afJ:=zg.aX Wv
   have abn:∀ b y,yA.box b=some y->b ≠ bn/\b ≠ be/\b ≠ bt:=fun b y hb =>
    ⟨fun e=>cj hb (e ▸ f1),fun e=>cj hb (e ▸ f2),fun e=>cj hb (e ▸ f3)⟩
   have adI:∀ p ∈ [(bn,[AV.int .i64 (n:Nat)]),(be,[.int .i64 ((n:Int)+x.size)]),(bt,[v]),(b3,[v]),(b4,[.int .i64 (n:Nat)]),(b6,[.bool false]),(b7,db x),(b8,oJ f)],p.1 ≠ tq:=by
    intro p hp
    have g:=abn tq _ (by assumption)
    simp only [cD] at hp
    rcases hp with rfl | rfl | rfl | hp
    . exact g.1.symm
    . exact g.2.1.symm
    . exact g.2.2.symm
    . exact afm p (by simpa using hp)
   have adJ:∀ p ∈ [(bn,[AV.int .i64 (n:Nat)]),(be,[.int .i64 ((n:Int)+x.size)]),(bt,[v]),(b3,[v]),(b4,[.int .i64 (n:Nat)]),(b6,[.bool false]),(b7,db x),(b8,oJ f)],p.1 ≠ ik:=by
    intro p hp
    have g:=abn ik _ Wv
    simp only [cD] at hp
    rcases hp with rfl | rfl | rfl | hp
    . exact g.1.symm
    . exact g.2.1.symm
    . exact g.2.2.symm
    . exact V8 p (by simpa using hp)
   generalize OP:[(bn,[AV.int .i64 (n:Nat)]),(be,[.int .i64 ((n:Int)+x.size)]),(bt,[v]),(b3,[v]),(b4,[.int .i64 (n:Nat)]),(b6,[.bool false]),(b7,db x),(b8,oJ f)]=bs at *
   have mem:∀ {ad:St},mQ ad bs->ad.box bn=some [.int .i64 (n:Nat)]/\ad.box be=some [.int .i64 ((n:Int)+x.size)]/\ad.box bt=some [v]/\ad.box b3=some [v]/\ad.box b4=some [.int .i64 (n:Nat)]/\ad.box b6=some [.bool false]/\ad.box b7=some (db x)/\ad.box b8=some (oJ f):=by
    intro ad hH
    subst OP
    exact ⟨hH (bn,[.int .i64 (n:Nat)]) (by simp),hH (be,[.int .i64 ((n:Int)+x.size)]) (by simp),hH (bt,[v]) (by simp),hH (b3,[v]) (by simp),hH (b4,[.int .i64 (n:Nat)]) (by simp),hH (b6,[.bool false]) (by simp),hH (b7,db x) (by simp),hH (b8,oJ f) (by simp)⟩
   have hlp:∀ {ad:St} {o:Nat} {L:fF},mQ ad bs->ad.loop o=some L->∀ p ∈ bs,p.1 ≠ o:=fun hH ho p hp=>bT (hH p hp) ho
   refine Dr (fun ks ad=>mQ ad bs/\(∃ vk,ad.box tq=some [vk]/\gk U ad vk 5 1 ks.length (oL (iU l ks)))/\ad.box ik=some [.int .i64 ((behind l (n+1) ks:Nat):Int)]/\ks.all (fun k=>decide (1 <= gi l k/\(k:Int)+gi l k <= n+x.size))=true) (fun ad=>ad.box b6=some [.bool false]/\jV l n x=false) hv hnl (by omega) (by omega)
    (fun ks ad hI=>⟨(mem hI.1).1,(mem hI.1).2.1,(mem hI.1).2.2.1⟩) (fun ks ad o L L' hI ho=>?_) (fun ks ad o L hI ho=>?_) (fun ad o L L' hJ ho=>?_) (fun ks jk y ad o L1 q hI hy aQ rq hnk sU si hL O8 Wj=>?_) (fun ks ad o L iC hI hL=>?_) (fun ad o L hJ hL=>?_) ⟨H11,⟨_,FA,by simpa [iU,oL] using gk.nil (p6 _)⟩,by simpa [behind] using afJ,rfl⟩
   . obtain ⟨hH,⟨vk,dG,Bh⟩,wq,cm⟩:=hI
     exact ⟨hH.set (hlp hH ho),⟨vk,by rw [aO (bT dG ho)]; exact dG,Bh.loop ho (p6 _)⟩,by rw [aO (bT wq ho)]; exact wq,cm⟩
   . obtain ⟨hH,⟨vk,dG,Bh⟩,wq,cm⟩:=hI
     have e:=bg ho (x:=.loop L)
     exact ⟨hH.A6 e,⟨vk,e.aX dG,Bh.mono e⟩,e.aX wq,cm⟩
   . exact ⟨by rw [aO (bT hJ.1 ho)]; exact hJ.1,hJ.2⟩
   . obtain ⟨hH,⟨vk,dG,Bh⟩,wq,cm⟩:=hI
     obtain ⟨mn,me,mt,m3,m4,m6,m7,m8⟩:=mem hH
     refine fK dG rfl ?_
     refine fK m3 rfl ?_
     refine Cb hv hy fun r=>?_
     simp only [dJ,aJ,eD,sZ,db,ix,jF]
     refine adX rfl rfl ?_
     refine JA Bh (m:=1) (l2:=[.int .u8 y.kind]) rfl rfl (by omega) (by omega) fun a7 v' g2 k2=>?_
     have rp:∀ b z,ad.box b=some z->a7.live b=ad.live b/\a7.box b=some z:=fun b z hb=>by
      cases wz:ad.live b with
      | none=>exact absurd wz (cj hb)
      | some w =>
        have:=k2 b w (fun n' l' C0=>by
         rcases Bh.g with ⟨_,_,h3⟩ | ⟨τ,r1,r2,_⟩
         . rw [h3] at C0; cases C0
         . rw [r1] at C0; cases C0; exact eV hb r2 rfl) wz
        exact ⟨this,by rw [dy (this.trans wz.symm)]; exact hb⟩
     refine ⟨fun b hb=>?_,?_⟩
     . simp only [eL,gy,jN,fS,cD,List.not_mem_nil,or_false] at hb
       rcases hb with rfl | rfl
       . exact (rp _ _ m3).1
       . exact (rp _ _ dG).1
     have hH2:mQ a7 bs:=fun p hp=>(rp _ _ (hH p hp)).2
     have Ms:=(rp _ _ wq).2
     have zx:=(rp _ _ dG).2
     have tB:v'.dc=true/\au v'=[v']:=by
      rcases g2.g with ⟨h0,_,_⟩ | ⟨τ,r1,_,_⟩
      . omega
      . rw [r1]; exact ⟨rfl,rfl⟩
     rw [cI zx]
     refine ⟨⟨tB.1,by rw [tB.2]; rfl,by simp⟩,?_⟩
     have hH3:=hH2.set adI (y:=.box (ay [vk] 0 (au v')))
     have TP:(a7.set tq (.box (ay [vk] 0 (au v')))).box ik=some [.int .i64 ((behind l (n+1) ks:Nat):Int)]:=by rw [aO M7.symm]; exact Ms
     have aeY:(a7.set tq (.box (ay [vk] 0 (au v')))).box tq=some [v']:=by rw [aV,tB.2]; rfl
     have g3:gk U (a7.set tq (.box (ay [vk] 0 (au v')))) v' 5 1 (ks.length+1) (oL (iU l ks)++[.int .u8 y.kind]):=by
      refine ⟨?_,g2.z,g2.t,p6 _⟩
      rcases g2.g with g | ⟨τ,r1,r2,r3⟩
      . exact .inl g
      . exact .inr ⟨τ,r1,by rw [gX (eV zx r2).symm]; exact r2,r3⟩
     have tu:(a7.set tq (.box (ay [vk] 0 (au v')))).loop o=some L1:=by
      obtain ⟨_,kl⟩:=nG Bh.g k2
      rw [fM]; exact kl hL
      rw [dR,if_neg (bT zx (kl hL)).symm]
     generalize a7.set tq (.box (ay [vk] 0 (au v')))=bO at *
     clear g2 k2 rp hH2 Ms zx hH dG Bh wq mn me mt m3 m4 m6 m7 m8
     obtain ⟨mn,me,mt,m3,m4,m6,m7,m8⟩:=mem hH3
     refine fK m4 rfl ?_
     refine fK m7 rfl ?_
     rw [Nq]
     refine ⟨bI (by omega) (by omega),?_⟩
     have agR:=(dx.1 hy).1
     rw [kT,gL,mE,aJ]
     refine ⟨bI (by omega) (by omega),?_⟩
     refine fK m3 rfl ?_
     refine Cb hv hy fun r=>?_
     simp only [dJ,aJ,db,ix,List.drop,sZ,jF]
     refine oF (qh _ _ _) ?_
     simp only [ey,aJ]
     have K2:gi l jk=y.size.toNat:=by unfold gi; rw [hy]; rfl
     by_cases hwk:1 <= y.size/\y.size <= (n:Int)+x.size - jk
     . simp only [hwk,and_self,du,c8]
       refine dC ?_
       refine dY m3 rfl ?_
       refine ED hv hy fun r=>?_
       simp only [dJ,al,db,ix,List.drop,ox,bA,dN]
       refine ⟨bI (by omega) (by omega),?_⟩
       rw [cI TP]
       refine ⟨⟨rfl,rfl,by simp⟩,?_⟩
       refine O8 _ ⟨hH3.set adJ,⟨v',by rw [aO M7]; exact aeY,?_⟩,?_,?_⟩ (by omega) ?_
       . have:gk U (bO.set ik (.box (ay [.int .i64 ((behind l (n+1) ks:Nat):Int)] 0 (au (.int .i64 ((jk:Int)+y.size)))))) v' 5 1 (ks.length+1) (oL (iU l ks)++[.int .u8 y.kind]):=by
          refine ⟨?_,g3.z,g3.t,p6 _⟩
          rcases g3.g with g | ⟨τ,r1,r2,r3⟩
          . exact .inl g
          . exact .inr ⟨τ,r1,by rw [gX (eV TP r2).symm]; exact r2,r3⟩
         rw [Is hy]
         simpa [oL] using this
       . rw [aV,AX,K2]
         have:((jk+y.size.toNat:Nat):Int)=(jk:Int)+y.size:=by omega
         rw [this]; rfl
       . rw [List.all_append,cm]
         simp only [List.all_cons,List.all_nil,Bool.and_true,Bool.true_and,dS,K2]
         omega
       . rw [fM]; exact tu
         rw [dR,if_neg (bT TP tu).symm]
     . simp only [hwk,eB,eQ]
       refine dP ?_
       rw [cI m6]
       refine ⟨⟨rfl,rfl,by simp⟩,?_⟩
       refine Wj _ ⟨by rw [aV]; rfl,?_⟩ ?_
       . obtain ⟨r',yK⟩:=si
         rw [hQ,yK,List.all_append,List.all_cons]
         have:decide (1 <= gi l jk/\(jk:Int)+gi l jk <= n+x.size)=false:=by
          rw [decide_eq_false_iff_not,K2]; omega
         rw [this]; simp
       . rw [fM]; exact tu
         rw [dR,if_neg (bT m6 tu).symm]
   . obtain ⟨hH,⟨vk,dG,Bh⟩,wq,cm⟩:=hI
     have hH':=hH.del (hlp hH hL)
     have Ms:(ad.del o).box ik=some [.int .i64 ((behind l (n+1) ks:Nat):Int)]:=by rw [jg (bT wq hL)]; exact wq
     have zx:(ad.del o).box tq=some [vk]:=by rw [jg (bT dG hL)]; exact dG
     obtain ⟨mn,me,mt,m3,m4,m6,m7,m8⟩:=mem hH'
     have agC:ks.length <= l.length:=by rw [iC]; exact xL _ _ _ _
     have wz:behind l (n+1) ks <= n+x.size.toNat+n+1:=by
      clear hQ
      rcases List.eq_nil_or_concat ks with h0 | ⟨ks',k,h0⟩
      . rw [h0]; simp [behind]
        try omega
      . rw [h0,List.concat_eq_append,AX]
        rw [h0,List.concat_eq_append,List.all_append,bX] at cm
        have:=cm.2
        simp only [List.all_cons,List.all_nil,Bool.and_true,dS] at this
        omega
     refine dY Ms rfl ?_
     refine dY m4 rfl ?_
     refine dY m7 rfl ?_
     rw [dN]
     refine ⟨bI (by omega) (by omega),?_⟩
     refine AR ?_
     rw [<- iC] at hQ
     rw [cm,Bool.true_and] at hQ
     by_cases wy:((behind l (n+1) ks:Nat):Int)=n+x.size
     . rw [decide_eq_true wy,Bool.true_and] at hQ
       simp only [wy,du,bf,gR,aN,cx,aZ,aJ,cU]
       refine fK zx rfl ?_
       refine fK m8 rfl ?_
       refine dP ?_
       have tB:eJ vk (iU l ks).length (oL (iU l ks)):=by
        have:(iU l ks).length=ks.length:=by simp [iU]
        rw [this]; exact Bh.sl
       have p5:=HB hf
       refine aaG tB (by simp [iU]; omega) p5.1 p5.2 fun tb e9=>?_
       simp only [bB,aM,if_true,al]
       exact ret _ tb (p6 _) ⟨_,e9.aX m6⟩ hQ
     . rw [decide_eq_false wy,Bool.false_and] at hQ
       simp only [wy,eB,bf,show (false == true)=false from rfl,aN,cF,aM,bU,if_false,al]
       refine dC ?_
       exact ret false _ (p6 _) ⟨_,m6⟩ hQ
   . have h6:(ad.del o).box b6=some [.bool false]:=by rw [jg (bT hJ.1 hL)]; exact hJ.1
     rw [ye h6 rfl]
     refine ak.mk ?_
     have:=h (ad.del o) (p6 _)
     rw [hJ.2] at this; exact this
end Go.Rip
namespace Go.Rip
open Go.Proofs Go.RowKit
theorem xp (ad:St):cW (bM ⟨.e,0⟩) ad:=fun b x h=>by cases h
theorem PK {v:AV} {l:List Nd} {n:Nat} {x:Nd} (hv:eJ v l.length (bK l)) (hc:closed v=true) (hx:l[n]?=some x) (hl:l.length <= 10000) (l8:x.text.length <= 3000):Pure K 131 [.agg [v],.int .i64 (n:Nat),p4] (.bool (jV l n x)) :=
 Pure.of (by simp [cA,closed,hc,show closed p4=true by kernel_rfl]) rfl (fun U=>rfl) fun R hR=>Yl hv hx hl l8 xp fun ad _=>hR ad
def lC (l:List Nd):Bool:=match l[0]? with | none=>false | some x0=>decide (x0.kind=1) && (decide (x0.size=((l.length:Nat):Int)) && (List.range l.length).all fun n=>match l[n]? with | some x=>jV l n x | none=>true)
theorem tR {l:List Nd} {x0:Nd} (h0:l[0]?=some x0):lC l=true ↔ (x0.kind=1/\x0.size=l.length/\∀ n x,l[n]?=some x->jV l n x=true):=by
 unfold lC
 rw [h0]
 simp only [bX,dS,fl,List.mem_range]
 refine and_congr_right fun _=>and_congr_right fun _=>⟨fun h n x hx=>?_,fun h n hn=>?_⟩
 . have:=h n (dx.1 hx).1
   rw [hx] at this; exact this
 . obtain ⟨x,hx⟩:∃ x,l[n]?=some x:=⟨l[n],by simp [hn]⟩
   rw [hx]; exact h n x hx
theorem Qg {l:List Nd} {n:Nat} {x:Nd} (hx:l[n]?=some x) (h:jV l n x=false):lC l=false:=by
 cases h0:l[0]? with
 | none=>unfold lC; rw [h0]
 | some x0 =>
   cases hr:lC l with
   | false=>rfl
   | true=>rw [((tR h0).1 hr).2.2 n x hx] at h; cases h
theorem Nr {v:AV} {l:List Nd} (hv:eJ v l.length (bK l)) (hc:closed v=true) (hl:l.length <= 10000) (l8:∀ x ∈ l,x.text.length <= 3000):Pure K 68 [.agg [v]] (.bool (lC l)):=by
 refine Pure.of (by simp [cA,closed,hc]) rfl (fun U=>rfl) fun R hR=>?_
 refine U5 ?_
 unfold W6
 rw [fA rfl]
 intro b1 gQ
 have m1:((bM ⟨.e,0⟩).new b1 (.box (au (.agg [v])))).box b1=some [v]:=aG
 generalize (bM _).new b1 _=aq at *
 clear gQ
 refine kJ (kJ (fK m1 rfl ?_))
 rw [hv.len,aJ,br,aJ]
 cases h0:l[0]? with
 | none =>
   have qO:l.length=0:=by simpa using h0
   have hq:lC l=false:=by unfold lC; rw [h0]
   simp only [qO,Int.natCast_zero,du,bf,show (true == false)=false from rfl,aN,cF,aM,if_true,qM,aJ]
   exact dP (ak.mk (by rw [<- hq]; exact hR _))
 | some x0 =>
   have qO:0 < l.length:=(dx.1 h0).1
   have cn:¬ ((l.length:Int)=0):=by omega
   have hQ:lC l=(decide (x0.kind=1) && (decide (x0.size=((l.length:Nat):Int)) && (List.range l.length).all fun n=>match l[n]? with | some x=>jV l n x | none=>true)):=by unfold lC; rw [h0]
   simp only [cn,eB,bf,gR,aN,cx]
   refine kJ (kJ (fK m1 rfl ?_))
   refine Cb (i:=0) hv h0 fun r=>?_
   simp only [dJ,aJ,eD,sZ,db,ix,jF,dp,aM,bU,if_false]
   by_cases hk:x0.kind=1
   rotate_left
   . simp only [hk,eB,eQ,bf,show (true == false)=false from rfl,aN,cF,aM,if_true,qM,aJ]
     exact dP (ak.mk (by rw [show false=lC l by rw [hQ]; simp [hk]]; exact hR _))
   simp only [hk,du,c8,bf,gR,aN,cx]
   refine kJ (kJ (fK m1 rfl ?_))
   refine Cb (i:=0) hv h0 fun r=>?_
   simp only [dJ,aJ,List.drop,sZ,db,ix,jF]
   refine kJ (kJ (fK m1 rfl ?_))
   rw [hv.len,aJ,dp,aJ]
   simp only [aM,bU,if_false,aJ]
   by_cases hs:x0.size=l.length
   rotate_left
   . simp only [hs,eB,eQ]
     exact dP (ak.mk (by rw [show false=lC l by rw [hQ]; simp [hk,hs]]; exact hR _))
   simp only [hs,du,c8]
   refine dC (CL.go ?_)
   simp only [aZ,al,cU]
   refine dY m1 rfl ?_
   rw [hv.len,al]
   refine ⟨fun m v1 v3 hX v37 ad=>∃ i:Nat,m=l.length - i/\i <= l.length/\v1=.box b1 0/\v3=p4/\hX=.int .i64 l.length/\v37=.int .i64 (i:Nat)/\ad=aq/\∀ j x,j < i->l[j]?=some x->jV l j x=true,⟨_,0,rfl,by omega,rfl,rfl,rfl,rfl,rfl,fun j x h=>by omega⟩,?_⟩
   rintro m v1 v3 hX v37 ad ⟨i,rfl,hi,rfl,rfl,rfl,rfl,rfl,cm⟩
   simp only [cb,al]
   refine gZ (fun aQ=>?_) fun kn=>?_
   . have aQ:i < l.length:=by omega
     obtain ⟨x,hx⟩:∃ x,l[i]?=some x:=⟨l[i],by simp [aQ]⟩
     rw [o5 m1]
     refine ⟨by simp,?_⟩
     refine (PK hv hc hx hl (l8 x (gh hx))).go ?_
     simp only [ey,al]
     cases hq:jV l i x with
     | false=>exact dP (ak.mk (by rw [<- Qg hx hq]; exact hR _))
     | true =>
       refine dC ?_
       rw [dN]
       refine ⟨bI (by omega) (by omega),l.length - (i+1),by omega,i+1,rfl,by omega,rfl,rfl,rfl,by simp,rfl,fun j y hj hy=>?_⟩
       by_cases h:j=i
       . subst h; rw [hx] at hy; cases hy; exact hq
       . exact cm j y (by omega) hy
   . refine ak.mk ?_
     have:lC l=true:=(tR h0).2 ⟨hk,hs,fun n x hx=>cm n x (by have:=(dx.1 hx).1; omega) hx⟩
     rw [<- this]; exact hR _
theorem CC {v:AV} {l:List Nd} (hv:eJ v l.length (bK l)) (hc:closed v=true) (hl:l.length <= 10000) (l8:∀ x ∈ l,x.text.length <= 3000):Pure K 30 [.agg [v]] (.int .i64 (gx l)):=by
 refine Pure.of (by simp [cA,closed,hc]) rfl (fun U=>rfl) fun R hR=>?_
 refine US ?_
 unfold WU
 rw [fA rfl]
 intro b1 gQ
 have m1:((bM ⟨.e,0⟩).new b1 (.box (au (.agg [v])))).box b1=some [v]:=aG
 generalize (bM _).new b1 _=aq at *
 clear gQ
 simp only [aZ,al,cU]
 refine dY m1 rfl ?_
 rw [hv.len,al]
 simp only [eY,al]
 refine gZ (fun wD=>?_) fun hle=>?_
 . refine ak.mk ?_
   have:gx l=5:=by unfold gx; rw [if_pos (by omega)]
   rw [<- this]; exact hR _
 rw [o5 m1]
 refine ⟨by simp,?_⟩
 refine oQ [v] rfl ?_
 refine (Nr hv hc hl l8).go ?_
 simp only [ey,al]
 have h9:¬ 900 < l.length:=by omega
 cases hq:lC l with
 | false =>
   refine dP (ak.mk ?_)
   have:gx l=4:=tL h9 fun h=>by
    obtain ⟨t,rfl,h2,h3⟩:=h
    obtain ⟨x,r,e,_⟩:=t.qL
    have h0:t.flat[0]?=some x:=by rw [e]; rfl
    rw [(tR h0).2 ((F2 h0).2 ⟨t,rfl,h2,h3⟩)] at hq
    cases hq
   rw [<- this]; exact hR _
 | true =>
   refine dC ?_
   rw [o5 m1]
   refine ⟨by simp,?_⟩
   cases h0:l[0]? with
   | none=>unfold lC at hq; rw [h0] at hq; cases hq
   | some x0 =>
     have hr:=(tR h0).1 hq
     obtain ⟨t,rfl,h2,h3⟩:=(F2 h0).1 hr
     have cn:t.flat ≠ []:=by intro e; rw [e] at h0; cases h0
     have eP:=(BA cn (by
      obtain ⟨y,r,e,_⟩:=t.qL
      rw [e] at h0 ⊢; simp at h0; subst h0; have:=hr.2.1; rw [e] at this; exact this) hr.2.2)
     refine (CM hv hc (by omega) cn (fun x hx=>?_) ?_).go ?_
     . obtain ⟨n,hn,rfl⟩:=List.getElem_of_mem hx
       have:=eP.1.2.2 n t.flat[n] (by simp [hn])
       omega
     . have:=eP.1.2.1; omega
     . rw [vJ]
       have TU:gx t.flat=if 60 < t.deep\/24 < t.kids.length then 5 else 0:=by
        rw [zb t h9]; unfold BU; rw [if_neg (by simp [h2,h3])]
       rw [TU] at hR
       by_cases hg:60 < t.deep\/24 < t.kids.length
       . rw [if_pos hg] at hR
         have:(decide (60 < t.deep) || decide (24 < t.kids.length))=true:=by simpa using hg
         rw [this]
         exact dP (ak.mk (hR _))
       . rw [if_neg hg] at hR
         have:(decide (60 < t.deep) || decide (24 < t.kids.length))=false:=by simpa using hg
         rw [this]
         exact dC (ak.mk (hR _))
end Go.Rip
