/- Lemmas for the proof: no conditions. -/
import Derived.Test.YtnfpmiiopiinbaaGreatDoorRipZz
import Derived.Test.YtnfpmiiopiinbaaGreatDoorRipY
import Derived.Test.YtnfpmiiopiinbaaGreatDoorRipQ
set_option linter.unusedVariables false
set_option linter.unusedSimpArgs false
set_option linter.loopingSimpArgs false
namespace Go.Rip
open Go.Proofs Go.RowKit
def uC:List Int:=(List.range 37).map fun i=>((i:Nat):Int)+1
theorem JJ {k:Int} (h:k < 1\/37 < k):∀ j ∈ uC,j ≠ k:=by
 intro j hj
 simp only [uC,List.mem_map,List.mem_range] at hj
 obtain ⟨i,hi,rfl⟩:=hj
 omega
theorem L6:∃ vs,oh=.eZ (uC.map (.int .u8)) vs:=⟨_,by unfold oh uC; rfl⟩
theorem look_ok (k:Int) (U:St):dz (some (.i,204)) (some (.agg [AV.bool false,AV.bool false,AV.bool false,AV.aw])) oh (.int .u8 k) true U=.val (match cx k with | some f=>.aF [.agg (my f),.bool true] | none=>.aF [Hj,.bool false]):=by
 obtain ⟨vs,xO⟩:=L6
 rw [xO]
 show lI .i (.int .u8 k) Hj true (uC.map (.int .u8)) vs=_
 by_cases h:k < 1\/37 < k
 . rw [tR h]
   exact DJ uC vs (JJ h)
 . obtain ⟨n,rfl⟩:∃ n:Nat,k=n:=⟨k.toNat,by omega⟩
   have:=KB ⟨n,by omega⟩
   unfold Ng at this
   rw [xO] at this
   simp only at this
   split at this
   . rename_i v hv
     rw [hv,ux this]
     cases cx n <;> rfl
   . cases this
theorem dA.Rc {U:St} {v:AV} {l:List Nd} (h:dA v l.length (cH l)):lC U v l:=by
 rcases h with ⟨h0,_,h1⟩ | ⟨c,h1⟩
 . exact .inl (.inl ⟨h1,qS.1 h0⟩)
 . exact .inl (.inr ⟨c,h1⟩)
theorem Ft {k:Int} {f:jK} (h:cx k=some f):f.kids.length <= 100/\∀ s ∈ f.kids,s.least <= 1000/\s.na <= 1000:=by
 have hk:1 <= k/\k <= 37:=by
  by_cases h1:k < 1\/37 < k
  . rw [tR h1] at h; cases h
  . omega
 obtain ⟨n,rfl⟩:∃ n:Nat,k=n:=⟨k.toNat,by omega⟩
 have all:∀ n:Fin 38,(match cx ((n.val:Nat):Int) with | some f=>decide (f.kids.length <= 100) && f.kids.all fun s=>decide (s.least <= 1000/\s.na <= 1000) | none=>true)=true:=by decide +kernel
 have:=all ⟨n,by omega⟩
 simp only [h,bL,dI,eC] at this
 exact this
def kU (U:St) (bs:List (Nat × List AV)):Prop:=∀ p ∈ bs,U.box p.1=some p.2
section
variable {U ad:St} {bs:List (Nat × List AV)} {b:Nat} {x:List AV}
theorem kU.zc (h:kU U bs) (e:cN U ad):kU ad bs:=fun p hp=>e.aS (h p hp)
theorem kU.cons (h:kU U bs) (k:U.box b=some x):kU U ((b,x)::bs):=fun p hp=>by
 rcases cD.1 hp with rfl | hp
 . exact k
 . exact h p hp
theorem kU.set (h:kU U bs) (hb:∀ p ∈ bs,p.1 ≠ b) {y:Live}:kU (U.set b y) bs:=fun p hp=>by
 rw [aN (hb p hp)]; exact h p hp
theorem kU.del (h:kU U bs) (hb:∀ p ∈ bs,p.1 ≠ b):kU (U.del b) bs:=fun p hp=>by
 rw [eM (hb p hp)]; exact h p hp
theorem kU.fresh (h:kU U bs) (f:U.cY b):∀ p ∈ bs,p.1 ≠ b:=fun p hp=>f.bK (h p hp)
end
theorem abB {e:TypeId} {x:AV} {z:AV} {kq:AV->Prop} (hx:x.cQ=true) (hc:au x=[x]) (hk:kq (.vec 1 .full [x])):ax K (aq (some (e,1)) (some [z]) 1 false [(0,x)]) kq:=by
 rw [vZ]
 refine ⟨by omega,?_⟩
 rw [sB (o:=0) (s:=1) rfl]
 refine ⟨⟨hx,by rw [hc]; rfl,by simp [bF]⟩,?_⟩
 rw [yQ,hc]
 exact ⟨rfl,hk⟩
theorem eo.loop {ao U:St} {v:AV} {e:TypeId} {sz n:Nat} {l:List AV} {o:Nat} {L L':eG} (h:eo ao U v e sz n l) (ho:U.loop o=some L) (hx:cN ao (U.set o (.loop L'))):eo ao (U.set o (.loop L')) v e sz n l:=by
 refine ⟨?_,h.z,h.t,hx⟩
 rcases h.g with g | ⟨τ,r1,r2,r3⟩
 . exact .inl g
 . refine .inr ⟨τ,r1,?_,r3⟩
   rw [fx]; exact r2
   rintro rfl
   unfold St.tok at r2; unfold St.loop at ho
   split at ho
   . rename_i e; simp [e] at r2
   . cases ho
theorem Ge {l:List Nd} {ks:List Nat} {k:Nat} {x:Nd} (h:l[k]?=some x):gG l (ks++[k])=gG l ks++[x.kind]:=by simp [gG,h]
theorem U2 {U:St} {R:cA->St->Prop} {v:AV} {l:List Nd} {n:Nat} {x:Nd} (hv:dA v l.length (cH l)) (hx:l[n]?=some x) (hl:l.length <= 10000) (iX:x.text.length <= 3000) (om:∀ ad,cN U ad)
 (h:∀ ad,cN U ad->R (.ret (.bool (iB l n x))) ad):ae K 131 [.agg [v],.int .i64 (n:Nat),oh] U R:=by
 refine N4 ?_
 unfold N3
 have SY:=(c8.1 hx).1
 rw [er rfl]
 intro b3 jn
 have k3:(U.new b3 (.box (au (.agg [v])))).box b3=some [v]:=aK
 have e1:=a7 jn (x:=.box (au (.agg [v])))
 generalize U.new b3 (.box (au (.agg [v])))=aP at *
 rw [er rfl]
 intro b4 gu
 have k4:(aP.new b4 (.box (au (.int .i64 (n:Nat))))).box b4=some [.int .i64 (n:Nat)]:=aK
 have DK:=gu.bK k3
 have e2:=e1.new gu (x:=.box (au (.int .i64 (n:Nat))))
 have k3:=(a7 gu (x:=.box (au (.int .i64 (n:Nat))))).aS k3
 generalize aP.new b4 (.box (au (.int .i64 (n:Nat))))=aZ at *
 rw [cS]
 intro b6 sW
 have k6:(aZ.new b6 (.box [.bool false])).box b6=some [.bool false]:=aK
 have n36:=sW.bK k3
 have n46:=sW.bK k4
 have f6:U.live b6=none:=e2.fresh sW.1
 have e3:=e2.new sW (x:=.box [.bool false])
 have k3:=(a7 sW (x:=.box [.bool false])).aS k3
 have k4:=(a7 sW (x:=.box [.bool false])).aS k4
 generalize aZ.new b6 (.box [.bool false])=bZ at *
 simp only [bg,al,cV]
 refine dq k3 rfl ?_
 refine dq k4 rfl ?_
 refine CV hv hx fun r=>?_
 rw [vb]
 refine ⟨by simp [cG],?_⟩
 have Fy:(cG x++r).take 6=cG x:=by simp [cG]
 rw [Fy,cS]
 intro b7 kN
 have k7:(bZ.new b7 (.box [AV.int .u8 0,AV.str [],AV.int .i64 0,AV.int .i64 0,AV.int .i64 0,AV.int .i64 0])).box b7=some [AV.int .u8 0,AV.str [],AV.int .i64 0,AV.int .i64 0,AV.int .i64 0,AV.int .i64 0]:=aK
 have n37:=kN.bK k3
 have Tq:=kN.bK k4
 have n67:=kN.bK k6
 have f7:U.live b7=none:=e3.fresh kN.1
 have e4:=e3.new kN (x:=.box [AV.int .u8 0,AV.str [],AV.int .i64 0,AV.int .i64 0,AV.int .i64 0,AV.int .i64 0])
 have en:=a7 kN (x:=.box [AV.int .u8 0,AV.str [],AV.int .i64 0,AV.int .i64 0,AV.int .i64 0,AV.int .i64 0])
 have k3:=en.aS k3
 have k4:=en.aS k4
 have k6:=en.aS k6
 clear en
 generalize bZ.new b7 (.box [AV.int .u8 0,AV.str [],AV.int .i64 0,AV.int .i64 0,AV.int .i64 0,AV.int .i64 0])=cC at *
 rw [cX k7]
 refine ⟨⟨rfl,rfl,by simp [cG]⟩,?_⟩
 have j7:(cC.set b7 (.box (aB [AV.int .u8 0,AV.str [],AV.int .i64 0,AV.int .i64 0,AV.int .i64 0,AV.int .i64 0] 0 (au (.agg (cG x)))))).box b7=some (cG x):=by rw [aW]; rfl
 have k3:(cC.set b7 (.box (aB [AV.int .u8 0,AV.str [],AV.int .i64 0,AV.int .i64 0,AV.int .i64 0,AV.int .i64 0] 0 (au (.agg (cG x)))))).box b3=some [v]:=by rw [aN n37]; exact k3
 have k4:(cC.set b7 (.box (aB [AV.int .u8 0,AV.str [],AV.int .i64 0,AV.int .i64 0,AV.int .i64 0,AV.int .i64 0] 0 (au (.agg (cG x)))))).box b4=some [.int .i64 (n:Nat)]:=by rw [aN Tq]; exact k4
 have k6:(cC.set b7 (.box (aB [AV.int .u8 0,AV.str [],AV.int .i64 0,AV.int .i64 0,AV.int .i64 0,AV.int .i64 0] 0 (au (.agg (cG x)))))).box b6=some [.bool false]:=by rw [aN n67]; exact k6
 have e5:=e4.set f7 (x:=.box (aB [AV.int .u8 0,AV.str [],AV.int .i64 0,AV.int .i64 0,AV.int .i64 0,AV.int .i64 0] 0 (au (.agg (cG x)))))
 generalize cC.set b7 (.box (aB [AV.int .u8 0,AV.str [],AV.int .i64 0,AV.int .i64 0,AV.int .i64 0,AV.int .i64 0] 0 (au (.agg (cG x)))))=dm at *
 clear k7 jn gu sW kN e1 e2 e3 e4
 refine dq j7 rfl ?_
 rw [look_ok,al]
 have ret:∀ (q:Bool) (ad:St),cN U ad->(∃ y,ad.box b6=some [y])->iB l n x=q->(aJ (some (false,1)) (.box b6 0) (.bool q) ad).wp K ad (fun _ U=>br (some (false,1)) (.box b6 0) U fun r0=>ak R r0 U) (aa R):=by
  intro q ad e ⟨y,hy⟩ hq
  rw [cX hy]
  refine ⟨⟨rfl,rfl,by simp⟩,?_⟩
  rw [qh aW rfl]
  subst hq
  exact ak.mk (h _ (e.set f6))
 cases hf:cx x.kind with
 | none =>
   have hq:iB l n x=false:=by unfold iB; rw [hf]
   simp only [bB,List.drop,bE,Hj]
   rw [cS]
   intro b8 qZ
   have k8:(dm.new b8 (.box [AV.bool false,AV.bool false,AV.bool false,AV.aw])).box b8=some [AV.bool false,AV.bool false,AV.bool false,AV.aw]:=aK
   have YJ:=qZ.bK k6
   have e6:=e5.new qZ (x:=.box [AV.bool false,AV.bool false,AV.bool false,AV.aw])
   have f8:U.live b8=none:=e5.fresh qZ.1
   have k6:=(a7 qZ (x:=.box [AV.bool false,AV.bool false,AV.bool false,AV.aw])).aS k6
   generalize dm.new b8 (.box [AV.bool false,AV.bool false,AV.bool false,AV.aw])=mi at *
   rw [cX k8]
   refine ⟨⟨rfl,rfl,by simp⟩,?_⟩
   simp only [dR,al,eA,aU,show (true == false)=false from rfl,aI,bV,nC,aL,if_true]
   exact df (ret false _ (e6.set f8) ⟨.bool false,by rw [aN YJ]; exact k6⟩ hq)
 | some f =>
   simp only [bB,List.drop,bE]
   rw [cS]
   intro b8 qZ
   have k8:(dm.new b8 (.box [AV.bool false,AV.bool false,AV.bool false,AV.aw])).box b8=some [AV.bool false,AV.bool false,AV.bool false,AV.aw]:=aK
   have n38:=qZ.bK k3
   have n48:=qZ.bK k4
   have YJ:=qZ.bK k6
   have n78:=qZ.bK j7
   have e6:=e5.new qZ (x:=.box [AV.bool false,AV.bool false,AV.bool false,AV.aw])
   have f8:U.live b8=none:=e5.fresh qZ.1
   have en:=a7 qZ (x:=.box [AV.bool false,AV.bool false,AV.bool false,AV.aw])
   have k3:=en.aS k3
   have k4:=en.aS k4
   have k6:=en.aS k6
   have j7:=en.aS j7
   clear en
   generalize dm.new b8 (.box [AV.bool false,AV.bool false,AV.bool false,AV.aw])=mi at *
   have Dg:(my f).length=4:=rfl
   rw [cX k8]
   refine ⟨⟨rfl,rfl,by simp [Dg]⟩,?_⟩
   have j8:(mi.set b8 (.box (aB [AV.bool false,AV.bool false,AV.bool false,AV.aw] 0 (au (.agg (my f)))))).box b8=some (my f):=by rw [aW]; rfl
   have k3:(mi.set b8 (.box (aB [AV.bool false,AV.bool false,AV.bool false,AV.aw] 0 (au (.agg (my f)))))).box b3=some [v]:=by rw [aN n38]; exact k3
   have k4:(mi.set b8 (.box (aB [AV.bool false,AV.bool false,AV.bool false,AV.aw] 0 (au (.agg (my f)))))).box b4=some [.int .i64 (n:Nat)]:=by rw [aN n48]; exact k4
   have k6:(mi.set b8 (.box (aB [AV.bool false,AV.bool false,AV.bool false,AV.aw] 0 (au (.agg (my f)))))).box b6=some [.bool false]:=by rw [aN YJ]; exact k6
   have j7:(mi.set b8 (.box (aB [AV.bool false,AV.bool false,AV.bool false,AV.aw] 0 (au (.agg (my f)))))).box b7=some (cG x):=by rw [aN n78]; exact j7
   have e7:=e6.set f8 (x:=.box (aB [AV.bool false,AV.bool false,AV.bool false,AV.aw] 0 (au (.agg (my f)))))
   generalize mi.set b8 (.box (aB [AV.bool false,AV.bool false,AV.bool false,AV.aw] 0 (au (.agg (my f)))))=iw at *
   clear k8 qZ e5 e6
   have hQ:iB l n x=(decide (1 <= x.size/\x.size <= (l.length:Int) - n) && (jL x f && ((ee l ((n:Int)+x.size) l.length (n+1)).all (fun k=>decide (1 <= eW l k/\(k:Int)+eW l k <= n+x.size)) &&
    (decide (((behind l (n+1) (ee l ((n:Int)+x.size) l.length (n+1)):Nat):Int)=n+x.size) && eu (gG l (ee l ((n:Int)+x.size) l.length (n+1))) f.kids)))):=by unfold iB; rw [hf]
   simp only [dR,al,cI,aU,gm,aI,bQ,aC]
   have hlen:cj (some false) v=.val (.int .i64 l.length):=hv.len
   refine gV (dX k3 rfl ?_)
   rw [hlen,aC]
   refine dX k4 rfl ?_
   rw [iy,fl,iD,aC]
   refine ⟨bw (by omega) (by omega),?_⟩
   refine gV (dX j7 rfl (mr (oC _ _ _) ?_))
   simp only [dR,aC,aL,bJ,if_false,al]
   have bad:iB l n x=false->(aJ (some (false,1)) (.box b6 0) (.bool false) iw).wp K iw (fun _ U=>br (some (false,1)) (.box b6 0) U fun r0=>ak R r0 U) (aa R):=fun hq=>ret false _ e7 ⟨_,k6⟩ hq
   by_cases hw:1 <= x.size/\x.size <= (l.length:Int) - n
   rotate_left
   . simp only [hw,dN,eA,aU,show (true == false)=false from rfl,aI,bV,nC,aL,if_true,al]
     exact df (bad (by rw [hQ,decide_eq_false hw]; rfl))
   rw [decide_eq_true hw,Bool.true_and] at hQ
   simp only [hw,da,cI,aU,gm,aI,bQ]
   simp only [and_self,da,cI,aU,gm,aI,bQ]
   refine gV (dX j8 rfl (gV (dX j7 rfl ?_)))
   rw [qn,aC,E0,aC]
   have hwt:(!decide (x.text=w_))=decide (x.text ≠ []):=by
    by_cases h:x.text=[] <;> simp [h,w_]
   rw [hwt]
   simp only [aL,bJ,if_false,al]
   have sV:jL x f=((f.text == decide (x.text ≠ [])) && ((!f.text || mD x.text) && (fQ x.n && (fQ x.m && ((f.n || decide (x.n=0)) && (f.m || decide (x.m=0))))))):=by
    unfold jL
    have e0:(x.text != [])=decide (x.text ≠ []):=by by_cases h:x.text=[] <;> simp [h]
    have e1:(x.n == 0)=decide (x.n=0):=by by_cases h:x.n=0 <;> simp [h]
    have e2:(x.m == 0)=decide (x.m=0):=by by_cases h:x.m=0 <;> simp [h]
    rw [e0,e1,e2]; simp only [Bool.and_assoc]
   cases ht:(f.text != decide (x.text ≠ [])) with
   | true =>
     simp only [aU,show (true == false)=false from rfl,aI,bV,nC,aL,if_true,al]
     refine df (bad ?_)
     have:(f.text == decide (x.text ≠ []))=false:=by revert ht; cases f.text <;> cases decide (x.text ≠ []) <;> simp
     rw [hQ,sV,this]; rfl
   | false =>
   have o3:(f.text == decide (x.text ≠ []))=true:=by revert ht; cases f.text <;> cases decide (x.text ≠ []) <;> simp
   rw [o3,Bool.true_and] at sV
   simp only [aU,gm,aI,bQ]
   refine gV (dX j8 rfl ?_)
   simp only [aC]
   have nm:∀ (A:Prop),((!f.text || mD x.text)=true->A) ->
    ai K (aH (.bool f.text) true) (af (some 1) (.box b7 0)) (fun nO =>
    ai K (aH (.bool f.text) true) (ah (some (false,1)) nO iw) (fun v53 =>
    ai K (aH (.bool f.text) true) (aD.enter 208 [v53]) (fun mP =>
    ai K (aH (.bool f.text) true) (jC .not mP) (fun mf =>
    ax K (bp (.bool f.text) mf (.bool false)) (fun pd =>
    av (if false=true then AV.bool true else pd) ((aJ (some (false,1)) (.box b6 0) (.bool false) iw).wp K iw (fun _ U=>br (some (false,1)) (.box b6 0) U fun r0=>ak R r0 U) (aa R)) A))))):=by
    intro A hA
    cases XZ:f.text with
    | false =>
      simp only [aU,show (false == true)=false from rfl,aI,bV,aL,bJ,if_false,aC,al]
      exact cO (hA (by rw [XZ]; rfl))
    | true =>
      simp only [aU,gm,aI,bQ]
      refine gV (dX j7 rfl (mr (KE _ iX) ?_))
      simp only [dR,aC,aL,if_true,bJ,if_false,al]
      cases Dm:mD x.text with
      | true=>exact cO (hA (by rw [XZ,Dm]; rfl))
      | false=>exact df (bad (by rw [hQ,sV,XZ,Dm]; rfl))
   refine nm _ fun Dm=>?_
   clear nm
   rw [Dm,Bool.true_and] at sV
   simp only [bg,al,cV]
   refine dq j7 rfl ((oC _ _ _).go ?_)
   have Mn:∀ a:Int,decide (0 <= a/\a <= 1000000)=fQ a:=fun _=>rfl
   rw [Mn]
   simp only [dR,al]
   cases hN:fQ x.n with
   | false =>
     simp only [eA,aU,show (true == false)=false from rfl,aI,bV,nC,aL,if_true,al]
     exact df (bad (by rw [hQ,sV,hN]; rfl))
   | true =>
   rw [hN,Bool.true_and] at sV
   simp only [cI,aU,gm,aI,bQ,aC]
   refine dX j7 rfl (mr (oC _ _ _) ?_)
   rw [Mn]
   simp only [dR,aC,aL,bJ,if_false,al]
   cases hM:fQ x.m with
   | false =>
     simp only [eA,aU,show (true == false)=false from rfl,aI,bV,nC,aL,if_true,al]
     exact df (bad (by rw [hQ,sV,hM]; rfl))
   | true =>
   rw [hM,Bool.true_and] at sV
   simp only [cI,aU,gm,aI,bQ,aC]
   refine dX j8 rfl ?_
   simp only [dR,aC]
   have Ub:∀ (kq:AV->Prop),((f.n || decide (x.n=0))=true->kq (.bool false))->((f.n || decide (x.n=0))=false->kq (.bool true)) ->
    ai K (aH (.bool !f.n) true) (.val (.box b7 2)) (fun D5=>ai K (aH (.bool !f.n) true) (ah (some (false,1)) D5 iw) fun pg=>ai K (aH (.bool !f.n) true) (ar .neq (BT.mk false false false none false) true pg (AV.int .i64 0)) fun v75 =>
     ax K (bp (.bool !f.n) v75 (.bool false)) kq):=by
    intro kq h1 h2
    cases hfn:f.n with
    | true =>
      simp only [cI,aU,show (false == true)=false from rfl,aI,bV,aL,bJ,if_false,aC]
      exact h1 (by rw [hfn]; rfl)
    | false =>
      simp only [eA,aU,gm,aI,bQ,aC]
      refine dX j7 rfl ?_
      rw [c6,aC]
      simp only [aL,if_true,aC]
      by_cases h0:x.n=0
      . simp only [h0,da,cI]; exact h1 (by simp [h0])
      . simp only [h0,dN,eA]; exact h2 (by rw [hfn]; simp [h0])
   have Ua:∀ (kq:AV->Prop),((f.m || decide (x.m=0))=true->kq (.bool false))->((f.m || decide (x.m=0))=false->kq (.bool true)) ->
    ai K (aH (.bool !f.m) true) (.val (.box b7 3)) (fun D5=>ai K (aH (.bool !f.m) true) (ah (some (false,1)) D5 iw) fun pg=>ai K (aH (.bool !f.m) true) (ar .neq (BT.mk false false false none false) true pg (AV.int .i64 0)) fun v75 =>
     ax K (bp (.bool !f.m) v75 (.bool false)) kq):=by
    intro kq h1 h2
    cases hfn:f.m with
    | true =>
      simp only [cI,aU,show (false == true)=false from rfl,aI,bV,aL,bJ,if_false,aC]
      exact h1 (by rw [hfn]; rfl)
    | false =>
      simp only [eA,aU,gm,aI,bQ,aC]
      refine dX j7 rfl ?_
      rw [c6,aC]
      simp only [aL,if_true,aC]
      by_cases h0:x.m=0
      . simp only [h0,da,cI]; exact h1 (by simp [h0])
      . simp only [h0,dN,eA]; exact h2 (by rw [hfn]; simp [h0])
   refine Ub _ (fun hn=>?_) fun hn=>?_
   rotate_left
   . simp only [bJ,if_false,aU,show (true == false)=false from rfl,aI,bV,nC,aL,if_true,al]
     exact df (bad (by rw [hQ,sV,hn]; rfl))
   rw [hn,Bool.true_and] at sV
   simp only [bJ,if_false,aU,gm,aI,bQ,aC]
   refine dX j8 rfl ?_
   simp only [dR,aC]
   refine Ua _ (fun hm=>?_) fun hm=>?_
   rotate_left
   . simp only [bJ,if_false,aL,if_true,al]
     exact df (bad (by rw [hQ,sV,hm]; rfl))
   rw [hm] at sV
   rw [sV,Bool.true_and] at hQ
   simp only [bJ,if_false,aL,al]
   refine cO ?_
   clear Ub Ua sV bad
   rw [cS]
   intro qX QT
   have H7:kU iw [(b3,[v]),(b4,[.int .i64 (n:Nat)]),(b6,[.bool false]),(b7,cG x),(b8,my f)] :=
    (((((show kU iw [] from fun p hp=>by cases hp).cons j8).cons j7).cons k6).cons k4).cons k3
   have DB:(iw.new qX (.box [.aw])).box qX=some [.aw]:=aK
   have ada:=H7.fresh QT
   have H8:=H7.zc (a7 QT (x:=.box [.aw]))
   generalize iw.new qX (.box [.aw])=tJ at *
   clear QT H7
   refine dq (H8 (b4,[.int .i64 (n:Nat)]) (by simp)) rfl ?_
   rw [dr]
   refine ⟨bw (by omega) (by omega),?_⟩
   rw [cS]
   intro iV tS
   have Tj:(tJ.new iV (.box [.int .i64 0])).box iV=some [.int .i64 0]:=aK
   have Ye:=(H8.cons DB).fresh tS
   have H9:=H8.zc (a7 tS (x:=.box [.int .i64 0]))
   have DB:=(a7 tS (x:=.box [.int .i64 0])).aS DB
   generalize tJ.new iV (.box [.int .i64 0])=qL at *
   clear tS H8
   rw [cX Tj]
   refine ⟨⟨rfl,rfl,by simp⟩,?_⟩
   have SW:∀ p ∈ [(b3,[v]),(b4,[.int .i64 (n:Nat)]),(b6,[.bool false]),(b7,cG x),(b8,my f)],p.1 ≠ iV:=fun p hp=>Ye p (List.mem_cons_of_mem _ hp)
   have Kx:qX ≠ iV:=Ye (qX,_) (List.mem_cons_self ..)
   have VJ:=H9.set SW (y:=.box (aB [AV.int .i64 0] 0 (au (.int .i64 ((n:Int)+1)))))
   have DB:(qL.set iV (.box (aB [AV.int .i64 0] 0 (au (.int .i64 ((n:Int)+1)))))).box qX=some [.aw]:=by rw [aN Kx]; exact DB
   have Tj:(qL.set iV (.box (aB [AV.int .i64 0] 0 (au (.int .i64 ((n:Int)+1)))))).box iV=some [.int .i64 ((n:Int)+1)]:=by rw [aW]; rfl
   generalize qL.set iV (.box (aB [AV.int .i64 0] 0 (au (.int .i64 ((n:Int)+1)))))=wC at *
   clear H9
   rw [pQ (VJ (b3,[v]) (by simp))]
   refine ⟨by simp,?_⟩
   refine dq (VJ (b4,[.int .i64 (n:Nat)]) (by simp)) rfl ?_
   refine p8 (n:=n) (x:=x) hv hx (bw (by omega) (by omega)) fun bn be bt aec d1 d2 d3 f1 f2 f3 q1 q2 q3 xp=>?_
   simp only [bu]
   have H11:=(((VJ.zc xp).cons q3).cons q2).cons q1
   have DB:=xp.aS DB
   have adD:=xp.aS Tj
   have YN:∀ b y,wC.box b=some y->b ≠ bn/\b ≠ be/\b ≠ bt:=fun b y hb =>
    ⟨fun e=>bG hb (e ▸ f1),fun e=>bG hb (e ▸ f2),fun e=>bG hb (e ▸ f3)⟩
   have abm:∀ p ∈ [(bn,[AV.int .i64 (n:Nat)]),(be,[.int .i64 ((n:Int)+x.size)]),(bt,[v]),(b3,[v]),(b4,[.int .i64 (n:Nat)]),(b6,[.bool false]),(b7,cG x),(b8,my f)],p.1 ≠ qX:=by
    intro p hp
    have g:=YN qX _ (by assumption)
    simp only [cD] at hp
    rcases hp with rfl | rfl | rfl | hp
    . exact g.1.symm
    . exact g.2.1.symm
    . exact g.2.2.symm
    . exact ada p (by simpa using hp)
   have abn:∀ p ∈ [(bn,[AV.int .i64 (n:Nat)]),(be,[.int .i64 ((n:Int)+x.size)]),(bt,[v]),(b3,[v]),(b4,[.int .i64 (n:Nat)]),(b6,[.bool false]),(b7,cG x),(b8,my f)],p.1 ≠ iV:=by
    intro p hp
    have g:=YN iV _ Tj
    simp only [cD] at hp
    rcases hp with rfl | rfl | rfl | hp
    . exact g.1.symm
    . exact g.2.1.symm
    . exact g.2.2.symm
    . exact SW p (by simpa using hp)
   generalize Mf:[(bn,[AV.int .i64 (n:Nat)]),(be,[.int .i64 ((n:Int)+x.size)]),(bt,[v]),(b3,[v]),(b4,[.int .i64 (n:Nat)]),(b6,[.bool false]),(b7,cG x),(b8,my f)]=bs at *
   have mem:∀ {ad:St},kU ad bs->ad.box bn=some [.int .i64 (n:Nat)]/\ad.box be=some [.int .i64 ((n:Int)+x.size)]/\ad.box bt=some [v]/\ad.box b3=some [v]/\ad.box b4=some [.int .i64 (n:Nat)]/\ad.box b6=some [.bool false]/\ad.box b7=some (cG x)/\ad.box b8=some (my f):=by
    intro ad hH
    subst Mf
    exact ⟨hH (bn,[.int .i64 (n:Nat)]) (by simp),hH (be,[.int .i64 ((n:Int)+x.size)]) (by simp),hH (bt,[v]) (by simp),hH (b3,[v]) (by simp),hH (b4,[.int .i64 (n:Nat)]) (by simp),hH (b6,[.bool false]) (by simp),hH (b7,cG x) (by simp),hH (b8,my f) (by simp)⟩
   have hlp:∀ {ad:St} {o:Nat} {L:eG},kU ad bs->ad.loop o=some L->∀ p ∈ bs,p.1 ≠ o:=fun hH ho p hp=>aX (hH p hp) ho
   refine rF (fun ks ad=>kU ad bs/\(∃ vk,ad.box qX=some [vk]/\eo U ad vk 5 1 ks.length (mA (gG l ks)))/\ad.box iV=some [.int .i64 ((behind l (n+1) ks:Nat):Int)]/\ks.all (fun k=>decide (1 <= eW l k/\(k:Int)+eW l k <= n+x.size))=true) (fun ad=>ad.box b6=some [.bool false]/\iB l n x=false) hv SY (by omega) (by omega)
    (fun ks ad hI=>⟨(mem hI.1).1,(mem hI.1).2.1,(mem hI.1).2.2.1⟩) (fun ks ad o L L' hI ho=>?_) (fun ks ad o L hI ho=>?_) (fun ad o L L' hJ ho=>?_) (fun ks fh y ad o L1 q hI hy aO pw Mw qD nU hL Bb FY=>?_) (fun ks ad o L gh hI hL=>?_) (fun ad o L hJ hL=>?_) ⟨H11,⟨_,DB,by simpa [gG,mA] using eo.nil (om _)⟩,by simpa [behind] using adD,rfl⟩
   . obtain ⟨hH,⟨vk,cF,nM⟩,wI,bO⟩:=hI
     exact ⟨hH.set (hlp hH ho),⟨vk,by rw [aN (aX cF ho)]; exact cF,nM.loop ho (om _)⟩,by rw [aN (aX wI ho)]; exact wI,bO⟩
   . obtain ⟨hH,⟨vk,cF,nM⟩,wI,bO⟩:=hI
     have e:=a7 ho (x:=.loop L)
     exact ⟨hH.zc e,⟨vk,e.aS cF,nM.mono e⟩,e.aS wI,bO⟩
   . exact ⟨by rw [aN (aX hJ.1 ho)]; exact hJ.1,hJ.2⟩
   . obtain ⟨hH,⟨vk,cF,nM⟩,wI,bO⟩:=hI
     obtain ⟨mn,me,mt,m3,m4,m6,m7,m8⟩:=mem hH
     refine dX cF rfl ?_
     refine dX m3 rfl ?_
     refine Ae hv hy fun r=>?_
     simp only [cU,aC,dJ,l9,cG,ib,fi]
     refine abB rfl rfl ?_
     refine BZ nM (m:=1) (l2:=[.int .u8 y.kind]) rfl rfl (by omega) (by omega) fun aZ v' g2 k2=>?_
     have kQ:∀ b z,ad.box b=some z->aZ.live b=ad.live b/\aZ.box b=some z:=fun b z hb=>by
      cases sX:ad.live b with
      | none=>exact absurd sX (bG hb)
      | some w =>
        have:=k2 b w (fun n' l' s0=>by
         rcases nM.g with ⟨_,_,h3⟩ | ⟨τ,r1,r2,_⟩
         . rw [h3] at s0; cases s0
         . rw [r1] at s0; cases s0; exact dL hb r2 rfl) sX
        exact ⟨this,by rw [dP (this.trans sX.symm)]; exact hb⟩
     refine ⟨fun b hb=>?_,?_⟩
     . simp only [cM,ia,kK,fB,cD,List.not_mem_nil,or_false] at hb
       rcases hb with rfl | rfl
       . exact (kQ _ _ m3).1
       . exact (kQ _ _ cF).1
     have hH2:kU aZ bs:=fun p hp=>(kQ _ _ (hH p hp)).2
     have JP:=(kQ _ _ wI).2
     have pz:=(kQ _ _ cF).2
     have lf:v'.cQ=true/\au v'=[v']:=by
      rcases g2.g with ⟨h0,_,_⟩ | ⟨τ,r1,_,_⟩
      . omega
      . rw [r1]; exact ⟨rfl,rfl⟩
     rw [cX pz]
     refine ⟨⟨lf.1,by rw [lf.2]; rfl,by simp⟩,?_⟩
     have hH3:=hH2.set abm (y:=.box (aB [vk] 0 (au v')))
     have QP:(aZ.set qX (.box (aB [vk] 0 (au v')))).box iV=some [.int .i64 ((behind l (n+1) ks:Nat):Int)]:=by rw [aN Kx.symm]; exact JP
     have acN:(aZ.set qX (.box (aB [vk] 0 (au v')))).box qX=some [v']:=by rw [aW,lf.2]; rfl
     have g3:eo U (aZ.set qX (.box (aB [vk] 0 (au v')))) v' 5 1 (ks.length+1) (mA (gG l ks)++[.int .u8 y.kind]):=by
      refine ⟨?_,g2.z,g2.t,om _⟩
      rcases g2.g with g | ⟨τ,r1,r2,r3⟩
      . exact .inl g
      . exact .inr ⟨τ,r1,by rw [fx (dL pz r2).symm]; exact r2,r3⟩
     have qY:(aZ.set qX (.box (aB [vk] 0 (au v')))).loop o=some L1:=by
      obtain ⟨_,kl⟩:=lA nM.g k2
      rw [dG]; exact kl hL
      rw [cR,if_neg (aX pz (kl hL)).symm]
     generalize aZ.set qX (.box (aB [vk] 0 (au v')))=bZ at *
     clear g2 k2 kQ hH2 JP pz hH cF nM wI mn me mt m3 m4 m6 m7 m8
     obtain ⟨mn,me,mt,m3,m4,m6,m7,m8⟩:=mem hH3
     refine dX m4 rfl ?_
     refine dX m7 rfl ?_
     rw [KI]
     refine ⟨bw (by omega) (by omega),?_⟩
     have X6:=(c8.1 hy).1
     rw [iy,fl,iD,aC]
     refine ⟨bw (by omega) (by omega),?_⟩
     refine dX m3 rfl ?_
     refine Ae hv hy fun r=>?_
     simp only [cU,aC,cG,ib,List.drop,l9,fi]
     refine mr (oC _ _ _) ?_
     simp only [dR,aC]
     have ID:eW l fh=y.size.toNat:=by unfold eW; rw [hy]; rfl
     by_cases hwk:1 <= y.size/\y.size <= (n:Int)+x.size - fh
     . simp only [hwk,and_self,da,cI]
       refine cO ?_
       refine dq m3 rfl ?_
       refine CV hv hy fun r=>?_
       simp only [cU,al,cG,ib,List.drop,oB,bE,dr]
       refine ⟨bw (by omega) (by omega),?_⟩
       rw [cX QP]
       refine ⟨⟨rfl,rfl,by simp⟩,?_⟩
       refine Bb _ ⟨hH3.set abn,⟨v',by rw [aN Kx]; exact acN,?_⟩,?_,?_⟩ (by omega) ?_
       . have:eo U (bZ.set iV (.box (aB [.int .i64 ((behind l (n+1) ks:Nat):Int)] 0 (au (.int .i64 ((fh:Int)+y.size)))))) v' 5 1 (ks.length+1) (mA (gG l ks)++[.int .u8 y.kind]):=by
          refine ⟨?_,g3.z,g3.t,om _⟩
          rcases g3.g with g | ⟨τ,r1,r2,r3⟩
          . exact .inl g
          . exact .inr ⟨τ,r1,by rw [fx (dL QP r2).symm]; exact r2,r3⟩
         rw [Ge hy]
         simpa [mA] using this
       . rw [aW,y8,ID]
         have:((fh+y.size.toNat:Nat):Int)=(fh:Int)+y.size:=by omega
         rw [this]; rfl
       . rw [List.all_append,bO]
         simp only [List.all_cons,List.all_nil,Bool.and_true,Bool.true_and,dI,ID]
         omega
       . rw [dG]; exact qY
         rw [cR,if_neg (aX QP qY).symm]
     . simp only [hwk,dN,eA]
       refine df ?_
       rw [cX m6]
       refine ⟨⟨rfl,rfl,by simp⟩,?_⟩
       refine FY _ ⟨by rw [aW]; rfl,?_⟩ ?_
       . obtain ⟨r',pU⟩:=nU
         rw [hQ,pU,List.all_append,List.all_cons]
         have:decide (1 <= eW l fh/\(fh:Int)+eW l fh <= n+x.size)=false:=by
          rw [decide_eq_false_iff_not,ID]; omega
         rw [this]; simp
       . rw [dG]; exact qY
         rw [cR,if_neg (aX m6 qY).symm]
   . obtain ⟨hH,⟨vk,cF,nM⟩,wI,bO⟩:=hI
     have hH':=hH.del (hlp hH hL)
     have JP:(ad.del o).box iV=some [.int .i64 ((behind l (n+1) ks:Nat):Int)]:=by rw [eM (aX wI hL)]; exact wI
     have pz:(ad.del o).box qX=some [vk]:=by rw [eM (aX cF hL)]; exact cF
     obtain ⟨mn,me,mt,m3,m4,m6,m7,m8⟩:=mem hH'
     have aek:ks.length <= l.length:=by rw [gh]; exact vL _ _ _ _
     have sX:behind l (n+1) ks <= n+x.size.toNat+n+1:=by
      clear hQ
      rcases List.eq_nil_or_concat ks with h0 | ⟨ks',k,h0⟩
      . rw [h0]; simp [behind]
        try omega
      . rw [h0,List.concat_eq_append,y8]
        rw [h0,List.concat_eq_append,List.all_append,bL] at bO
        have:=bO.2
        simp only [List.all_cons,List.all_nil,Bool.and_true,dI] at this
        omega
     refine dq JP rfl ?_
     refine dq m4 rfl ?_
     refine dq m7 rfl ?_
     rw [dr]
     refine ⟨bw (by omega) (by omega),?_⟩
     refine B1 ?_
     rw [<- gh] at hQ
     rw [bO,Bool.true_and] at hQ
     by_cases uE:((behind l (n+1) ks:Nat):Int)=n+x.size
     . rw [decide_eq_true uE,Bool.true_and] at hQ
       simp only [uE,da,aU,gm,aI,bQ,bg,aC,cV]
       refine dX pz rfl ?_
       refine dX m8 rfl ?_
       refine df ?_
       have lf:dA vk (gG l ks).length (mA (gG l ks)):=by
        have:(gG l ks).length=ks.length:=by simp [gG]
        rw [this]; exact nM.sl
       have px:=Ft hf
       refine Xo lf (by simp [gG]; omega) px.1 px.2 fun qL e9=>?_
       simp only [bu,aL,if_true,al]
       exact ret _ qL (om _) ⟨_,e9.aS m6⟩ hQ
     . rw [decide_eq_false uE,Bool.false_and] at hQ
       simp only [uE,dN,aU,show (false == true)=false from rfl,aI,bV,aL,bJ,if_false,al]
       refine cO ?_
       exact ret false _ (om _) ⟨_,m6⟩ hQ
   . have h6:(ad.del o).box b6=some [.bool false]:=by rw [eM (aX hJ.1 hL)]; exact hJ.1
     rw [qh h6 rfl]
     refine ak.mk ?_
     have:=h (ad.del o) (om _)
     rw [hJ.2] at this; exact this
end Go.Rip
namespace Go.Rip
open Go.Proofs Go.RowKit
theorem pq (ad:St):cN (bC ⟨.e,0⟩) ad:=fun b x h=>by cases h
theorem M8 {v:AV} {l:List Nd} {n:Nat} {x:Nd} (hv:dA v l.length (cH l)) (hc:closed v=true) (hx:l[n]?=some x) (hl:l.length <= 10000) (iX:x.text.length <= 3000):Pure K 131 [.agg [v],.int .i64 (n:Nat),oh] (.bool (iB l n x)) :=
 Pure.of (by simp [bY,closed,hc,show closed oh=true by kernel_rfl]) rfl (fun U=>rfl) fun R hR=>U2 hv hx hl iX pq fun ad _=>hR ad
def jT (l:List Nd):Bool:=match l[0]? with | none=>false | some x0=>decide (x0.kind=1) && (decide (x0.size=((l.length:Nat):Int)) && (List.range l.length).all fun n=>match l[n]? with | some x=>iB l n x | none=>true)
theorem rH {l:List Nd} {x0:Nd} (h0:l[0]?=some x0):jT l=true ↔ (x0.kind=1/\x0.size=l.length/\∀ n x,l[n]?=some x->iB l n x=true):=by
 unfold jT
 rw [h0]
 simp only [bL,dI,eC,List.mem_range]
 refine and_congr_right fun _=>and_congr_right fun _=>⟨fun h n x hx=>?_,fun h n hn=>?_⟩
 . have:=h n (c8.1 hx).1
   rw [hx] at this; exact this
 . obtain ⟨x,hx⟩:∃ x,l[n]?=some x:=⟨l[n],by simp [hn]⟩
   rw [hx]; exact h n x hx
theorem NA {l:List Nd} {n:Nat} {x:Nd} (hx:l[n]?=some x) (h:iB l n x=false):jT l=false:=by
 cases h0:l[0]? with
 | none=>unfold jT; rw [h0]
 | some x0 =>
   cases hr:jT l with
   | false=>rfl
   | true=>rw [((rH h0).1 hr).2.2 n x hx] at h; cases h
theorem KM {v:AV} {l:List Nd} (hv:dA v l.length (cH l)) (hc:closed v=true) (hl:l.length <= 10000) (iX:∀ x ∈ l,x.text.length <= 3000):Pure K 68 [.agg [v]] (.bool (jT l)):=by
 refine Pure.of (by simp [bY,closed,hc]) rfl (fun U=>rfl) fun R hR=>?_
 refine RU ?_
 unfold TN
 rw [er rfl]
 intro b1 fX
 have m1:((bC ⟨.e,0⟩).new b1 (.box (au (.agg [v])))).box b1=some [v]:=aK
 generalize (bC _).new b1 _=ao at *
 clear fX
 refine gV (gV (dX m1 rfl ?_))
 rw [hv.len,aC,bj,aC]
 cases h0:l[0]? with
 | none =>
   have uM:l.length=0:=by simpa using h0
   have hq:jT l=false:=by unfold jT; rw [h0]
   simp only [uM,Int.natCast_zero,da,aU,show (true == false)=false from rfl,aI,bV,aL,if_true,nC,aC]
   exact df (ak.mk (by rw [<- hq]; exact hR _))
 | some x0 =>
   have uM:0 < l.length:=(c8.1 h0).1
   have bT:¬ ((l.length:Int)=0):=by omega
   have hQ:jT l=(decide (x0.kind=1) && (decide (x0.size=((l.length:Nat):Int)) && (List.range l.length).all fun n=>match l[n]? with | some x=>iB l n x | none=>true)):=by unfold jT; rw [h0]
   simp only [bT,dN,aU,gm,aI,bQ]
   refine gV (gV (dX m1 rfl ?_))
   refine Ae (i:=0) hv h0 fun r=>?_
   simp only [cU,aC,dJ,l9,cG,ib,fi,c6,aL,bJ,if_false]
   by_cases hk:x0.kind=1
   rotate_left
   . simp only [hk,dN,eA,aU,show (true == false)=false from rfl,aI,bV,aL,if_true,nC,aC]
     exact df (ak.mk (by rw [show false=jT l by rw [hQ]; simp [hk]]; exact hR _))
   simp only [hk,da,cI,aU,gm,aI,bQ]
   refine gV (gV (dX m1 rfl ?_))
   refine Ae (i:=0) hv h0 fun r=>?_
   simp only [cU,aC,List.drop,l9,cG,ib,fi]
   refine gV (gV (dX m1 rfl ?_))
   rw [hv.len,aC,c6,aC]
   simp only [aL,bJ,if_false,aC]
   by_cases hs:x0.size=l.length
   rotate_left
   . simp only [hs,dN,eA]
     exact df (ak.mk (by rw [show false=jT l by rw [hQ]; simp [hk,hs]]; exact hR _))
   simp only [hs,da,cI]
   refine cO (AQ.go ?_)
   simp only [bg,al,cV]
   refine dq m1 rfl ?_
   rw [hv.len,al]
   refine ⟨fun m v1 v3 gp v37 ad=>∃ i:Nat,m=l.length - i/\i <= l.length/\v1=.box b1 0/\v3=oh/\gp=.int .i64 l.length/\v37=.int .i64 (i:Nat)/\ad=ao/\∀ j x,j < i->l[j]?=some x->iB l j x=true,⟨_,0,rfl,by omega,rfl,rfl,rfl,rfl,rfl,fun j x h=>by omega⟩,?_⟩
   rintro m v1 v3 gp v37 ad ⟨i,rfl,hi,rfl,rfl,rfl,rfl,rfl,bO⟩
   simp only [bP,al]
   refine fI (fun aO=>?_) fun jo=>?_
   . have aO:i < l.length:=by omega
     obtain ⟨x,hx⟩:∃ x,l[i]?=some x:=⟨l[i],by simp [aO]⟩
     rw [pQ m1]
     refine ⟨by simp,?_⟩
     refine (M8 hv hc hx hl (iX x (fj hx))).go ?_
     simp only [dR,al]
     cases hq:iB l i x with
     | false=>exact df (ak.mk (by rw [<- NA hx hq]; exact hR _))
     | true =>
       refine cO ?_
       rw [dr]
       refine ⟨bw (by omega) (by omega),l.length - (i+1),by omega,i+1,rfl,by omega,rfl,rfl,rfl,by simp,rfl,fun j y hj hy=>?_⟩
       by_cases h:j=i
       . subst h; rw [hx] at hy; cases hy; exact hq
       . exact bO j y (by omega) hy
   . refine ak.mk ?_
     have:jT l=true:=(rH h0).2 ⟨hk,hs,fun n x hx=>bO n x (by have:=(c8.1 hx).1; omega) hx⟩
     rw [<- this]; exact hR _
theorem ru {v:AV} {l:List Nd} (hv:dA v l.length (cH l)) (hc:closed v=true) (hl:l.length <= 10000) (iX:∀ x ∈ l,x.text.length <= 3000):Pure K 30 [.agg [v]] (.int .i64 (gg l)):=by
 refine Pure.of (by simp [bY,closed,hc]) rfl (fun U=>rfl) fun R hR=>?_
 refine RM ?_
 unfold TE
 rw [er rfl]
 intro b1 fX
 have m1:((bC ⟨.e,0⟩).new b1 (.box (au (.agg [v])))).box b1=some [v]:=aK
 generalize (bC _).new b1 _=ao at *
 clear fX
 simp only [bg,al,cV]
 refine dq m1 rfl ?_
 rw [hv.len,al]
 simp only [dO,al]
 refine fI (fun xG=>?_) fun hle=>?_
 . refine ak.mk ?_
   have:gg l=5:=by unfold gg; rw [if_pos (by omega)]
   rw [<- this]; exact hR _
 rw [pQ m1]
 refine ⟨by simp,?_⟩
 refine qA [v] rfl ?_
 refine (KM hv hc hl iX).go ?_
 simp only [dR,al]
 have h9:¬ 900 < l.length:=by omega
 cases hq:jT l with
 | false =>
   refine df (ak.mk ?_)
   have:gg l=4:=rv h9 fun h=>by
    obtain ⟨t,rfl,h2,h3⟩:=h
    obtain ⟨x,r,e,_⟩:=t.oY
    have h0:t.flat[0]?=some x:=by rw [e]; rfl
    rw [(rH h0).2 ((DR h0).2 ⟨t,rfl,h2,h3⟩)] at hq
    cases hq
   rw [<- this]; exact hR _
 | true =>
   refine cO ?_
   rw [pQ m1]
   refine ⟨by simp,?_⟩
   cases h0:l[0]? with
   | none=>unfold jT at hq; rw [h0] at hq; cases hq
   | some x0 =>
     have hr:=(rH h0).1 hq
     obtain ⟨t,rfl,h2,h3⟩:=(DR h0).1 hr
     have bT:t.flat ≠ []:=by intro e; rw [e] at h0; cases h0
     have dQ:=(zB bT (by
      obtain ⟨y,r,e,_⟩:=t.oY
      rw [e] at h0 ⊢; simp at h0; subst h0; have:=hr.2.1; rw [e] at this; exact this) hr.2.2)
     refine (JM hv hc (by omega) bT (fun x hx=>?_) ?_).go ?_
     . obtain ⟨n,hn,rfl⟩:=List.getElem_of_mem hx
       have:=dQ.1.2.2 n t.flat[n] (by simp [hn])
       omega
     . have:=dQ.1.2.1; omega
     . rw [HF]
       have QU:gg t.flat=if 60 < t.deep\/24 < t.kids.length then 5 else 0:=by
        rw [C5 t h9]; unfold Cc; rw [if_neg (by simp [h2,h3])]
       rw [QU] at hR
       by_cases hg:60 < t.deep\/24 < t.kids.length
       . rw [if_pos hg] at hR
         have:(decide (60 < t.deep) || decide (24 < t.kids.length))=true:=by simpa using hg
         rw [this]
         exact df (ak.mk (hR _))
       . rw [if_neg hg] at hR
         have:(decide (60 < t.deep) || decide (24 < t.kids.length))=false:=by simpa using hg
         rw [this]
         exact cO (ak.mk (hR _))
end Go.Rip
