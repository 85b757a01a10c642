/- Lemmas for the proof: no conditions. -/
import Derived.Test.YtnfpmiiopiinbaaGreatDoorRipZz
import Derived.Test.YtnfpmiiopiinbaaGreatDoorRipY
import Derived.Test.YtnfpmiiopiinbaaGreatDoorRipQ
set_option linter.unusedVariables false
set_option linter.unusedSimpArgs false
set_option linter.loopingSimpArgs false
namespace Go.Rip
open Go.Proofs Go.RowKit
def vI:List Int:=(List.range 37).map fun i=>((i:Nat):Int)+1
theorem Lk {k:Int} (h:k < 1\/37 < k):∀ j ∈ vI,j ≠ k:=by
 intro j hj
 simp only [vI,List.mem_map,List.mem_range] at hj
 obtain ⟨i,hi,rfl⟩:=hj
 omega
theorem Np:∃ vs,pb=.gb (vI.map (.int .u8)) vs:=⟨_,by unfold pb vI; rfl⟩
theorem look_ok (k:Int) (U:St):gI (some (.i,204)) (some (.agg [AV.bool false,AV.bool false,AV.bool false,AV.aA])) pb (.int .u8 k) true U=.val (match bw k with | some f=>.aG [.agg (nJ f),.bool true] | none=>.aG [IN,.bool false]):=by
 obtain ⟨vs,zb⟩:=Np
 rw [zb]
 show oD .i (.int .u8 k) IN true (vI.map (.int .u8)) vs=_
 by_cases h:k < 1\/37 < k
 . rw [pa h]
   exact Fa vI vs (Lk h)
 . obtain ⟨n,rfl⟩:∃ n:Nat,k=n:=⟨k.toNat,by omega⟩
   have:=LZ ⟨n,by omega⟩
   unfold OE at this
   rw [zb] at this
   simp only at this
   split at this
   . rename_i v hv
     rw [hv,vE this]
     cases bw n <;> rfl
   . cases this
theorem cB.zj {U:St} {v:AV} {l:List Nd} (h:cB v l.length (c8 l)):kn U v l:=by
 rcases h with ⟨h0,_,h1⟩ | ⟨c,h1⟩
 . exact .inl (.inl ⟨h1,tS.1 h0⟩)
 . exact .inl (.inr ⟨c,h1⟩)
theorem GX {k:Int} {f:fQ} (h:bw k=some f):f.kids.length <= 100/\∀ s ∈ f.kids,s.least <= 1000/\s.nL <= 1000:=by
 have hk:1 <= k/\k <= 37:=by
  by_cases h1:k < 1\/37 < k
  . rw [pa h1] at h; cases h
  . omega
 obtain ⟨n,rfl⟩:∃ n:Nat,k=n:=⟨k.toNat,by omega⟩
 have all:∀ n:Fin 38,(match bw ((n.val:Nat):Int) with | some f=>decide (f.kids.length <= 100) && f.kids.all fun s=>decide (s.least <= 1000/\s.nL <= 1000) | none=>true)=true:=by decide +kernel
 have:=all ⟨n,by omega⟩
 simp only [h,bX,da,ep] at this
 exact this
def l8 (U:St) (bs:List (Nat × List AV)):Prop:=∀ p ∈ bs,U.box p.1=some p.2
section
variable {U af:St} {bs:List (Nat × List AV)} {b:Nat} {x:List AV}
theorem l8.qG (h:l8 U bs) (e:dD U af):l8 af bs:=fun p hp=>e.bo (h p hp)
theorem l8.cons (h:l8 U bs) (k:U.box b=some x):l8 U ((b,x)::bs):=fun p hp=>by
 rcases cF.1 hp with rfl | hp
 . exact k
 . exact h p hp
theorem l8.set (h:l8 U bs) (hb:∀ p ∈ bs,p.1 ≠ b) {y:Live}:l8 (U.set b y) bs:=fun p hp=>by
 rw [bf (hb p hp)]; exact h p hp
theorem l8.del (h:l8 U bs) (hb:∀ p ∈ bs,p.1 ≠ b):l8 (U.del b) bs:=fun p hp=>by
 rw [jv (hb p hp)]; exact h p hp
theorem l8.fresh (h:l8 U bs) (f:U.dw b):∀ p ∈ bs,p.1 ≠ b:=fun p hp=>f.cH (h p hp)
end
theorem acU {e:TypeId} {x:AV} {z:AV} {kq:AV->Prop} (hx:x.eF=true) (hc:aC x=[x]) (hk:kq (.vec 1 .full [x])):aF K (aJ (some (e,1)) (some [z]) 1 false [(0,x)]) kq:=by
 rw [BH]
 refine ⟨by omega,?_⟩
 rw [wh (o:=0) (s:=1) rfl]
 refine ⟨⟨hx,by rw [hc]; rfl,by simp [cN]⟩,?_⟩
 rw [DZ,hc]
 exact ⟨rfl,hk⟩
theorem fW.loop {aw U:St} {v:AV} {e:TypeId} {sz n:Nat} {l:List AV} {o:Nat} {L L':fp} (h:fW aw U v e sz n l) (ho:U.loop o=some L) (hx:dD aw (U.set o (.loop L'))):fW aw (U.set o (.loop L')) v e sz n l:=by
 refine ⟨?_,h.z,h.t,hx⟩
 rcases h.g with g | ⟨τ,r1,r2,r3⟩
 . exact .inl g
 . refine .inr ⟨τ,r1,?_,r3⟩
   rw [il]; exact r2
   rintro rfl
   unfold St.tok at r2; unfold St.loop at ho
   split at ho
   . rename_i e; simp [e] at r2
   . cases ho
theorem HD {l:List Nd} {ks:List Nat} {k:Nat} {x:Nd} (h:l[k]?=some x):iB l (ks++[k])=iB l ks++[x.kind]:=by simp [iB,h]
theorem WG {U:St} {R:cO->St->Prop} {v:AV} {l:List Nd} {n:Nat} {x:Nd} (hv:cB v l.length (c8 l)) (hx:l[n]?=some x) (hl:l.length <= 10000) (jh:x.text.length <= 3000) (sH:∀ af,dD U af)
 (h:∀ af,dD U af->R (.ret (.bool (jA l n x))) af):ag K 131 [.agg [v],.int .i64 (n:Nat),pb] U R:=by
 refine Ps ?_
 unfold Pr
 have UQ:=(de.1 hx).1
 rw [fg rfl]
 intro b3 pc
 have k3:(U.new b3 (.box (aC (.agg [v])))).box b3=some [v]:=aS
 have e1:=bE pc (x:=.box (aC (.agg [v])))
 generalize U.new b3 (.box (aC (.agg [v])))=aQ at *
 rw [fg rfl]
 intro b4 iS
 have k4:(aQ.new b4 (.box (aC (.int .i64 (n:Nat))))).box b4=some [.int .i64 (n:Nat)]:=aS
 have HN:=iS.cH k3
 have e2:=e1.new iS (x:=.box (aC (.int .i64 (n:Nat))))
 have k3:=(bE iS (x:=.box (aC (.int .i64 (n:Nat))))).bo k3
 generalize aQ.new b4 (.box (aC (.int .i64 (n:Nat))))=bg at *
 rw [df]
 intro b6 uo
 have k6:(bg.new b6 (.box [.bool false])).box b6=some [.bool false]:=aS
 have n36:=uo.cH k3
 have n46:=uo.cH k4
 have f6:U.live b6=none:=e2.fresh uo.1
 have e3:=e2.new uo (x:=.box [.bool false])
 have k3:=(bE uo (x:=.box [.bool false])).bo k3
 have k4:=(bE uo (x:=.box [.bool false])).bo k4
 generalize bg.new b6 (.box [.bool false])=cz at *
 simp only [ct,al,dI]
 refine dj k3 rfl ?_
 refine dj k4 rfl ?_
 refine Ee hv hx fun r=>?_
 rw [rh]
 refine ⟨by simp [cM],?_⟩
 have G4:(cM x++r).take 6=cM x:=by simp [cM]
 rw [G4,df]
 intro b7 lT
 have k7:(cz.new b7 (.box [AV.int .u8 0,AV.str [],AV.int .i64 0,AV.int .i64 0,AV.int .i64 0,AV.int .i64 0])).box b7=some [AV.int .u8 0,AV.str [],AV.int .i64 0,AV.int .i64 0,AV.int .i64 0,AV.int .i64 0]:=aS
 have n37:=lT.cH k3
 have Vd:=lT.cH k4
 have n67:=lT.cH k6
 have f7:U.live b7=none:=e3.fresh lT.1
 have e4:=e3.new lT (x:=.box [AV.int .u8 0,AV.str [],AV.int .i64 0,AV.int .i64 0,AV.int .i64 0,AV.int .i64 0])
 have en:=bE lT (x:=.box [AV.int .u8 0,AV.str [],AV.int .i64 0,AV.int .i64 0,AV.int .i64 0,AV.int .i64 0])
 have k3:=en.bo k3
 have k4:=en.bo k4
 have k6:=en.bo k6
 clear en
 generalize cz.new b7 (.box [AV.int .u8 0,AV.str [],AV.int .i64 0,AV.int .i64 0,AV.int .i64 0,AV.int .i64 0])=dZ at *
 rw [dP k7]
 refine ⟨⟨rfl,rfl,by simp [cM]⟩,?_⟩
 have j7:(dZ.set b7 (.box (aK [AV.int .u8 0,AV.str [],AV.int .i64 0,AV.int .i64 0,AV.int .i64 0,AV.int .i64 0] 0 (aC (.agg (cM x)))))).box b7=some (cM x):=by rw [bD]; rfl
 have k3:(dZ.set b7 (.box (aK [AV.int .u8 0,AV.str [],AV.int .i64 0,AV.int .i64 0,AV.int .i64 0,AV.int .i64 0] 0 (aC (.agg (cM x)))))).box b3=some [v]:=by rw [bf n37]; exact k3
 have k4:(dZ.set b7 (.box (aK [AV.int .u8 0,AV.str [],AV.int .i64 0,AV.int .i64 0,AV.int .i64 0,AV.int .i64 0] 0 (aC (.agg (cM x)))))).box b4=some [.int .i64 (n:Nat)]:=by rw [bf Vd]; exact k4
 have k6:(dZ.set b7 (.box (aK [AV.int .u8 0,AV.str [],AV.int .i64 0,AV.int .i64 0,AV.int .i64 0,AV.int .i64 0] 0 (aC (.agg (cM x)))))).box b6=some [.bool false]:=by rw [bf n67]; exact k6
 have e5:=e4.set f7 (x:=.box (aK [AV.int .u8 0,AV.str [],AV.int .i64 0,AV.int .i64 0,AV.int .i64 0,AV.int .i64 0] 0 (aC (.agg (cM x)))))
 generalize dZ.set b7 (.box (aK [AV.int .u8 0,AV.str [],AV.int .i64 0,AV.int .i64 0,AV.int .i64 0,AV.int .i64 0] 0 (aC (.agg (cM x)))))=eW at *
 clear k7 pc iS uo lT e1 e2 e3 e4
 refine dj j7 rfl ?_
 rw [look_ok,al]
 have ret:∀ (q:Bool) (af:St),dD U af->(∃ y,af.box b6=some [y])->jA l n x=q->(aU (some (false,1)) (.box b6 0) (.bool q) af).wp K af (fun _ U=>bF (some (false,1)) (.box b6 0) U fun r0=>aj R r0 U) (aa R):=by
  intro q af e ⟨y,hy⟩ hq
  rw [dP hy]
  refine ⟨⟨rfl,rfl,by simp⟩,?_⟩
  rw [xG bD rfl]
  subst hq
  exact aj.mk (h _ (e.set f6))
 cases hf:bw x.kind with
 | none =>
   have hq:jA l n x=false:=by unfold jA; rw [hf]
   simp only [bH,List.drop,bN,IN]
   rw [df]
   intro b8 rQ
   have k8:(eW.new b8 (.box [AV.bool false,AV.bool false,AV.bool false,AV.aA])).box b8=some [AV.bool false,AV.bool false,AV.bool false,AV.aA]:=aS
   have n68:=rQ.cH k6
   have e6:=e5.new rQ (x:=.box [AV.bool false,AV.bool false,AV.bool false,AV.aA])
   have f8:U.live b8=none:=e5.fresh rQ.1
   have k6:=(bE rQ (x:=.box [AV.bool false,AV.bool false,AV.bool false,AV.aA])).bo k6
   generalize eW.new b8 (.box [AV.bool false,AV.bool false,AV.bool false,AV.aA])=oU at *
   rw [dP k8]
   refine ⟨⟨rfl,rfl,by simp⟩,?_⟩
   simp only [dA,al,dx,aI,show (true == false)=false from rfl,aB,aZ,fZ,az,if_true]
   exact ca (ret false _ (e6.set f8) ⟨.bool false,by rw [bf n68]; exact k6⟩ hq)
 | some f =>
   simp only [bH,List.drop,bN]
   rw [df]
   intro b8 rQ
   have k8:(eW.new b8 (.box [AV.bool false,AV.bool false,AV.bool false,AV.aA])).box b8=some [AV.bool false,AV.bool false,AV.bool false,AV.aA]:=aS
   have n38:=rQ.cH k3
   have n48:=rQ.cH k4
   have n68:=rQ.cH k6
   have n78:=rQ.cH j7
   have e6:=e5.new rQ (x:=.box [AV.bool false,AV.bool false,AV.bool false,AV.aA])
   have f8:U.live b8=none:=e5.fresh rQ.1
   have en:=bE rQ (x:=.box [AV.bool false,AV.bool false,AV.bool false,AV.aA])
   have k3:=en.bo k3
   have k4:=en.bo k4
   have k6:=en.bo k6
   have j7:=en.bo j7
   clear en
   generalize eW.new b8 (.box [AV.bool false,AV.bool false,AV.bool false,AV.aA])=oU at *
   have yZ:(nJ f).length=4:=rfl
   rw [dP k8]
   refine ⟨⟨rfl,rfl,by simp [yZ]⟩,?_⟩
   have j8:(oU.set b8 (.box (aK [AV.bool false,AV.bool false,AV.bool false,AV.aA] 0 (aC (.agg (nJ f)))))).box b8=some (nJ f):=by rw [bD]; rfl
   have k3:(oU.set b8 (.box (aK [AV.bool false,AV.bool false,AV.bool false,AV.aA] 0 (aC (.agg (nJ f)))))).box b3=some [v]:=by rw [bf n38]; exact k3
   have k4:(oU.set b8 (.box (aK [AV.bool false,AV.bool false,AV.bool false,AV.aA] 0 (aC (.agg (nJ f)))))).box b4=some [.int .i64 (n:Nat)]:=by rw [bf n48]; exact k4
   have k6:(oU.set b8 (.box (aK [AV.bool false,AV.bool false,AV.bool false,AV.aA] 0 (aC (.agg (nJ f)))))).box b6=some [.bool false]:=by rw [bf n68]; exact k6
   have j7:(oU.set b8 (.box (aK [AV.bool false,AV.bool false,AV.bool false,AV.aA] 0 (aC (.agg (nJ f)))))).box b7=some (cM x):=by rw [bf n78]; exact j7
   have e7:=e6.set f8 (x:=.box (aK [AV.bool false,AV.bool false,AV.bool false,AV.aA] 0 (aC (.agg (nJ f)))))
   generalize oU.set b8 (.box (aK [AV.bool false,AV.bool false,AV.bool false,AV.aA] 0 (aC (.agg (nJ f)))))=jN at *
   clear k8 rQ e5 e6
   have hQ:jA l n x=(decide (1 <= x.size/\x.size <= (l.length:Int) - n) && (kr x f && ((fy l ((n:Int)+x.size) l.length (n+1)).all (fun k=>decide (1 <= fV l k/\(k:Int)+fV l k <= n+x.size)) &&
    (decide (((behind l (n+1) (fy l ((n:Int)+x.size) l.length (n+1)):Nat):Int)=n+x.size) && c7 (iB l (fy l ((n:Int)+x.size) l.length (n+1))) f.kids)))):=by unfold jA; rw [hf]
   simp only [dA,al,cn,aI,dN,aB,bq,ax]
   have hlen:br (some false) v=.val (.int .i64 l.length):=hv.len
   refine hU (dz k3 rfl ?_)
   rw [hlen,ax]
   refine dz k4 rfl ?_
   rw [gX,gQ,lJ,ax]
   refine ⟨aW (by omega) (by omega),?_⟩
   refine hU (dz j7 rfl (gV (po _ _ _) ?_))
   simp only [dA,ax,az,bC,if_false,al]
   have bad:jA l n x=false->(aU (some (false,1)) (.box b6 0) (.bool false) jN).wp K jN (fun _ U=>bF (some (false,1)) (.box b6 0) U fun r0=>aj R r0 U) (aa R):=fun hq=>ret false _ e7 ⟨_,k6⟩ hq
   by_cases hw:1 <= x.size/\x.size <= (l.length:Int) - n
   rotate_left
   . simp only [hw,cE,dx,aI,show (true == false)=false from rfl,aB,aZ,fZ,az,if_true,al]
     exact ca (bad (by rw [hQ,decide_eq_false hw]; rfl))
   rw [decide_eq_true hw,Bool.true_and] at hQ
   simp only [hw,bZ,cn,aI,dN,aB,bq]
   simp only [and_self,bZ,cn,aI,dN,aB,bq]
   refine hU (dz j8 rfl (hU (dz j7 rfl ?_)))
   rw [lF,ax,yD,ax]
   have hwt:(!decide (x.text=w_))=decide (x.text ≠ []):=by
    by_cases h:x.text=[] <;> simp [h,w_]
   rw [hwt]
   simp only [az,bC,if_false,al]
   have um:kr x f=((f.text == decide (x.text ≠ [])) && ((!f.text || fA x.text) && (eg x.n && (eg x.m && ((f.n || decide (x.n=0)) && (f.m || decide (x.m=0))))))):=by
    unfold kr
    have e0:(x.text != [])=decide (x.text ≠ []):=by by_cases h:x.text=[] <;> simp [h]
    have e1:(x.n == 0)=decide (x.n=0):=by by_cases h:x.n=0 <;> simp [h]
    have e2:(x.m == 0)=decide (x.m=0):=by by_cases h:x.m=0 <;> simp [h]
    rw [e0,e1,e2]; simp only [Bool.and_assoc]
   cases ht:(f.text != decide (x.text ≠ [])) with
   | true =>
     simp only [aI,show (true == false)=false from rfl,aB,aZ,fZ,az,if_true,al]
     refine ca (bad ?_)
     have:(f.text == decide (x.text ≠ []))=false:=by revert ht; cases f.text <;> cases decide (x.text ≠ []) <;> simp
     rw [hQ,um,this]; rfl
   | false =>
   have nQ:(f.text == decide (x.text ≠ []))=true:=by revert ht; cases f.text <;> cases decide (x.text ≠ []) <;> simp
   rw [nQ,Bool.true_and] at um
   simp only [aI,dN,aB,bq]
   refine hU (dz j8 rfl ?_)
   simp only [ax]
   have nm:∀ (A:Prop),((!f.text || fA x.text)=true->A) ->
    ad K (ar (.bool f.text) true) (ae (some 1) (.box b7 0)) (fun gT =>
    ad K (ar (.bool f.text) true) (ah (some (false,1)) gT jN) (fun v53 =>
    ad K (ar (.bool f.text) true) (ay.enter 208 [v53]) (fun gi =>
    ad K (ar (.bool f.text) true) (hY .not gi) (fun gU =>
    aF K (aO (.bool f.text) gU (.bool false)) (fun iM =>
    ao (if false=true then AV.bool true else iM) ((aU (some (false,1)) (.box b6 0) (.bool false) jN).wp K jN (fun _ U=>bF (some (false,1)) (.box b6 0) U fun r0=>aj R r0 U) (aa R)) A))))):=by
    intro A hA
    cases ZX:f.text with
    | false =>
      simp only [aI,show (false == true)=false from rfl,aB,aZ,az,bC,if_false,ax,al]
      exact bO (hA (by rw [ZX]; rfl))
    | true =>
      simp only [aI,dN,aB,bq]
      refine hU (dz j7 rfl (gV (L9 _ jh) ?_))
      simp only [dA,ax,az,if_true,bC,if_false,al]
      cases EG:fA x.text with
      | true=>exact bO (hA (by rw [ZX,EG]; rfl))
      | false=>exact ca (bad (by rw [hQ,um,ZX,EG]; rfl))
   refine nm _ fun EG=>?_
   clear nm
   rw [EG,Bool.true_and] at um
   simp only [ct,al,dI]
   refine dj j7 rfl ((po _ _ _).go ?_)
   have hin:∀ a:Int,decide (0 <= a/\a <= 1000000)=eg a:=fun _=>rfl
   rw [hin]
   simp only [dA,al]
   cases hN:eg x.n with
   | false =>
     simp only [dx,aI,show (true == false)=false from rfl,aB,aZ,fZ,az,if_true,al]
     exact ca (bad (by rw [hQ,um,hN]; rfl))
   | true =>
   rw [hN,Bool.true_and] at um
   simp only [cn,aI,dN,aB,bq,ax]
   refine dz j7 rfl (gV (po _ _ _) ?_)
   rw [hin]
   simp only [dA,ax,az,bC,if_false,al]
   cases hM:eg x.m with
   | false =>
     simp only [dx,aI,show (true == false)=false from rfl,aB,aZ,fZ,az,if_true,al]
     exact ca (bad (by rw [hQ,um,hM]; rfl))
   | true =>
   rw [hM,Bool.true_and] at um
   simp only [cn,aI,dN,aB,bq,ax]
   refine dz j8 rfl ?_
   simp only [dA,ax]
   have VQ:∀ (kq:AV->Prop),((f.n || decide (x.n=0))=true->kq (.bool false))->((f.n || decide (x.n=0))=false->kq (.bool true)) ->
    ad K (ar (.bool !f.n) true) (.val (.box b7 2)) (fun pn=>ad K (ar (.bool !f.n) true) (ah (some (false,1)) pn jN) fun oT=>ad K (ar (.bool !f.n) true) (ai .neq (BT.mk false false false none false) true oT (AV.int .i64 0)) fun v75 =>
     aF K (aO (.bool !f.n) v75 (.bool false)) kq):=by
    intro kq h1 h2
    cases hfn:f.n with
    | true =>
      simp only [cn,aI,show (false == true)=false from rfl,aB,aZ,az,bC,if_false,ax]
      exact h1 (by rw [hfn]; rfl)
    | false =>
      simp only [dx,aI,dN,aB,bq,ax]
      refine dz j7 rfl ?_
      rw [cg,ax]
      simp only [az,if_true,ax]
      by_cases h0:x.n=0
      . simp only [h0,bZ,cn]; exact h1 (by simp [h0])
      . simp only [h0,cE,dx]; exact h2 (by rw [hfn]; simp [h0])
   have VP:∀ (kq:AV->Prop),((f.m || decide (x.m=0))=true->kq (.bool false))->((f.m || decide (x.m=0))=false->kq (.bool true)) ->
    ad K (ar (.bool !f.m) true) (.val (.box b7 3)) (fun pn=>ad K (ar (.bool !f.m) true) (ah (some (false,1)) pn jN) fun oT=>ad K (ar (.bool !f.m) true) (ai .neq (BT.mk false false false none false) true oT (AV.int .i64 0)) fun v75 =>
     aF K (aO (.bool !f.m) v75 (.bool false)) kq):=by
    intro kq h1 h2
    cases hfn:f.m with
    | true =>
      simp only [cn,aI,show (false == true)=false from rfl,aB,aZ,az,bC,if_false,ax]
      exact h1 (by rw [hfn]; rfl)
    | false =>
      simp only [dx,aI,dN,aB,bq,ax]
      refine dz j7 rfl ?_
      rw [cg,ax]
      simp only [az,if_true,ax]
      by_cases h0:x.m=0
      . simp only [h0,bZ,cn]; exact h1 (by simp [h0])
      . simp only [h0,cE,dx]; exact h2 (by rw [hfn]; simp [h0])
   refine VQ _ (fun hn=>?_) fun hn=>?_
   rotate_left
   . simp only [bC,if_false,aI,show (true == false)=false from rfl,aB,aZ,fZ,az,if_true,al]
     exact ca (bad (by rw [hQ,um,hn]; rfl))
   rw [hn,Bool.true_and] at um
   simp only [bC,if_false,aI,dN,aB,bq,ax]
   refine dz j8 rfl ?_
   simp only [dA,ax]
   refine VP _ (fun hm=>?_) fun hm=>?_
   rotate_left
   . simp only [bC,if_false,az,if_true,al]
     exact ca (bad (by rw [hQ,um,hm]; rfl))
   rw [hm] at um
   rw [um,Bool.true_and] at hQ
   simp only [bC,if_false,az,al]
   refine bO ?_
   clear VQ VP um bad
   rw [df]
   intro sy SJ
   have H7:l8 jN [(b3,[v]),(b4,[.int .i64 (n:Nat)]),(b6,[.bool false]),(b7,cM x),(b8,nJ f)] :=
    (((((show l8 jN [] from fun p hp=>by cases hp).cons j8).cons j7).cons k6).cons k4).cons k3
   have EW:(jN.new sy (.box [.aA])).box sy=some [.aA]:=aS
   have aaa:=H7.fresh SJ
   have H8:=H7.qG (bE SJ (x:=.box [.aA]))
   generalize jN.new sy (.box [.aA])=Bi at *
   clear SJ H7
   refine dj (H8 (b4,[.int .i64 (n:Nat)]) (by simp)) rfl ?_
   rw [cr]
   refine ⟨aW (by omega) (by omega),?_⟩
   rw [df]
   intro jO uX
   have U6:(Bi.new jO (.box [.int .i64 0])).box jO=some [.int .i64 0]:=aS
   have aab:=(H8.cons EW).fresh uX
   have H9:=H8.qG (bE uX (x:=.box [.int .i64 0]))
   have EW:=(bE uX (x:=.box [.int .i64 0])).bo EW
   generalize Bi.new jO (.box [.int .i64 0])=ub at *
   clear uX H8
   rw [dP U6]
   refine ⟨⟨rfl,rfl,by simp⟩,?_⟩
   have UO:∀ p ∈ [(b3,[v]),(b4,[.int .i64 (n:Nat)]),(b6,[.bool false]),(b7,cM x),(b8,nJ f)],p.1 ≠ jO:=fun p hp=>aab p (List.mem_cons_of_mem _ hp)
   have LS:sy ≠ jO:=aab (sy,_) (List.mem_cons_self ..)
   have Xr:=H9.set UO (y:=.box (aK [AV.int .i64 0] 0 (aC (.int .i64 ((n:Int)+1)))))
   have EW:(ub.set jO (.box (aK [AV.int .i64 0] 0 (aC (.int .i64 ((n:Int)+1)))))).box sy=some [.aA]:=by rw [bf LS]; exact EW
   have U6:(ub.set jO (.box (aK [AV.int .i64 0] 0 (aC (.int .i64 ((n:Int)+1)))))).box jO=some [.int .i64 ((n:Int)+1)]:=by rw [bD]; rfl
   generalize ub.set jO (.box (aK [AV.int .i64 0] 0 (aC (.int .i64 ((n:Int)+1)))))=Ac at *
   clear H9
   rw [pA (Xr (b3,[v]) (by simp))]
   refine ⟨by simp,?_⟩
   refine dj (Xr (b4,[.int .i64 (n:Nat)]) (by simp)) rfl ?_
   refine xh (n:=n) (x:=x) hv hx (aW (by omega) (by omega)) fun bn be bt afX d1 d2 d3 f1 f2 f3 q1 q2 q3 yM=>?_
   simp only [bL]
   have H11:=(((Xr.qG yM).cons q3).cons q2).cons q1
   have EW:=yM.bo EW
   have aeS:=yM.bo U6
   have aar:∀ b y,Ac.box b=some y->b ≠ bn/\b ≠ be/\b ≠ bt:=fun b y hb =>
    ⟨fun e=>dc hb (e ▸ f1),fun e=>dc hb (e ▸ f2),fun e=>dc hb (e ▸ f3)⟩
   have acD:∀ p ∈ [(bn,[AV.int .i64 (n:Nat)]),(be,[.int .i64 ((n:Int)+x.size)]),(bt,[v]),(b3,[v]),(b4,[.int .i64 (n:Nat)]),(b6,[.bool false]),(b7,cM x),(b8,nJ f)],p.1 ≠ sy:=by
    intro p hp
    have g:=aar sy _ (by assumption)
    simp only [cF] at hp
    rcases hp with rfl | rfl | rfl | hp
    . exact g.1.symm
    . exact g.2.1.symm
    . exact g.2.2.symm
    . exact aaa p (by simpa using hp)
   have acE:∀ p ∈ [(bn,[AV.int .i64 (n:Nat)]),(be,[.int .i64 ((n:Int)+x.size)]),(bt,[v]),(b3,[v]),(b4,[.int .i64 (n:Nat)]),(b6,[.bool false]),(b7,cM x),(b8,nJ f)],p.1 ≠ jO:=by
    intro p hp
    have g:=aar jO _ U6
    simp only [cF] at hp
    rcases hp with rfl | rfl | rfl | hp
    . exact g.1.symm
    . exact g.2.1.symm
    . exact g.2.2.symm
    . exact UO p (by simpa using hp)
   generalize Ny:[(bn,[AV.int .i64 (n:Nat)]),(be,[.int .i64 ((n:Int)+x.size)]),(bt,[v]),(b3,[v]),(b4,[.int .i64 (n:Nat)]),(b6,[.bool false]),(b7,cM x),(b8,nJ f)]=bs at *
   have mem:∀ {af:St},l8 af bs->af.box bn=some [.int .i64 (n:Nat)]/\af.box be=some [.int .i64 ((n:Int)+x.size)]/\af.box bt=some [v]/\af.box b3=some [v]/\af.box b4=some [.int .i64 (n:Nat)]/\af.box b6=some [.bool false]/\af.box b7=some (cM x)/\af.box b8=some (nJ f):=by
    intro af hH
    subst Ny
    exact ⟨hH (bn,[.int .i64 (n:Nat)]) (by simp),hH (be,[.int .i64 ((n:Int)+x.size)]) (by simp),hH (bt,[v]) (by simp),hH (b3,[v]) (by simp),hH (b4,[.int .i64 (n:Nat)]) (by simp),hH (b6,[.bool false]) (by simp),hH (b7,cM x) (by simp),hH (b8,nJ f) (by simp)⟩
   have Z5:∀ {af:St} {o:Nat} {L:fp},l8 af bs->af.loop o=some L->∀ p ∈ bs,p.1 ≠ o:=fun hH ho p hp=>bV (hH p hp) ho
   refine C1 (fun ks af=>l8 af bs/\(∃ vk,af.box sy=some [vk]/\fW U af vk 5 1 ks.length (fR (iB l ks)))/\af.box jO=some [.int .i64 ((behind l (n+1) ks:Nat):Int)]/\ks.all (fun k=>decide (1 <= fV l k/\(k:Int)+fV l k <= n+x.size))=true) (fun af=>af.box b6=some [.bool false]/\jA l n x=false) hv UQ (by omega) (by omega)
    (fun ks af hI=>⟨(mem hI.1).1,(mem hI.1).2.1,(mem hI.1).2.2.1⟩) (fun ks af o L L' hI ho=>?_) (fun ks af o L hI ho=>?_) (fun af o L L' hJ ho=>?_) (fun ks fI y af o L1 q hI hy aM pE hnk jQ pF hL NQ UZ=>?_) (fun ks af o L iq hI hL=>?_) (fun af o L hJ hL=>?_) ⟨H11,⟨_,EW,by simpa [iB,fR] using fW.nil (sH _)⟩,by simpa [behind] using aeS,rfl⟩
   . obtain ⟨hH,⟨vk,bM,AS⟩,AN,bA⟩:=hI
     exact ⟨hH.set (Z5 hH ho),⟨vk,by rw [bf (bV bM ho)]; exact bM,AS.loop ho (sH _)⟩,by rw [bf (bV AN ho)]; exact AN,bA⟩
   . obtain ⟨hH,⟨vk,bM,AS⟩,AN,bA⟩:=hI
     have e:=bE ho (x:=.loop L)
     exact ⟨hH.qG e,⟨vk,e.bo bM,AS.mono e⟩,e.bo AN,bA⟩
   . exact ⟨by rw [bf (bV hJ.1 ho)]; exact hJ.1,hJ.2⟩
   . obtain ⟨hH,⟨vk,bM,AS⟩,AN,bA⟩:=hI
     obtain ⟨mn,me,mt,m3,m4,m6,m7,m8⟩:=mem hH
     refine dz bM rfl ?_
     refine dz m3 rfl ?_
     refine BI hv hy fun r=>?_
     simp only [dB,ax,dQ,oo,cM,iX,iE]
     refine acU rfl rfl ?_
     refine wx AS (m:=1) (l2:=[.int .u8 y.kind]) rfl rfl (by omega) (by omega) fun bg v' g2 k2=>?_
     have qh:∀ b z,af.box b=some z->bg.live b=af.live b/\bg.box b=some z:=fun b z hb=>by
      cases yg:af.live b with
      | none=>exact absurd yg (dc hb)
      | some w =>
        have:=k2 b w (fun n' l' CE=>by
         rcases AS.g with ⟨_,_,h3⟩ | ⟨τ,r1,r2,_⟩
         . rw [h3] at CE; cases CE
         . rw [r1] at CE; cases CE; exact gg hb r2 rfl) yg
        exact ⟨this,by rw [fE (this.trans yg.symm)]; exact hb⟩
     refine ⟨fun b hb=>?_,?_⟩
     . simp only [dK,gw,mw,fN,cF,List.not_mem_nil,or_false] at hb
       rcases hb with rfl | rfl
       . exact (qh _ _ m3).1
       . exact (qh _ _ bM).1
     have hH2:l8 bg bs:=fun p hp=>(qh _ _ (hH p hp)).2
     have Lo:=(qh _ _ AN).2
     have za:=(qh _ _ bM).2
     have ni:v'.eF=true/\aC v'=[v']:=by
      rcases g2.g with ⟨h0,_,_⟩ | ⟨τ,r1,_,_⟩
      . omega
      . rw [r1]; exact ⟨rfl,rfl⟩
     rw [dP za]
     refine ⟨⟨ni.1,by rw [ni.2]; rfl,by simp⟩,?_⟩
     have hH3:=hH2.set acD (y:=.box (aK [vk] 0 (aC v')))
     have SF:(bg.set sy (.box (aK [vk] 0 (aC v')))).box jO=some [.int .i64 ((behind l (n+1) ks:Nat):Int)]:=by rw [bf LS.symm]; exact Lo
     have ad6:(bg.set sy (.box (aK [vk] 0 (aC v')))).box sy=some [v']:=by rw [bD,ni.2]; rfl
     have g3:fW U (bg.set sy (.box (aK [vk] 0 (aC v')))) v' 5 1 (ks.length+1) (fR (iB l ks)++[.int .u8 y.kind]):=by
      refine ⟨?_,g2.z,g2.t,sH _⟩
      rcases g2.g with g | ⟨τ,r1,r2,r3⟩
      . exact .inl g
      . exact .inr ⟨τ,r1,by rw [il (gg za r2).symm]; exact r2,r3⟩
     have sB:(bg.set sy (.box (aK [vk] 0 (aC v')))).loop o=some L1:=by
      obtain ⟨_,kl⟩:=lj AS.g k2
      rw [fT]; exact kl hL
      rw [dy,if_neg (bV za (kl hL)).symm]
     generalize bg.set sy (.box (aK [vk] 0 (aC v')))=cz at *
     clear g2 k2 qh hH2 Lo za hH bM AS AN mn me mt m3 m4 m6 m7 m8
     obtain ⟨mn,me,mt,m3,m4,m6,m7,m8⟩:=mem hH3
     refine dz m4 rfl ?_
     refine dz m7 rfl ?_
     rw [CY]
     refine ⟨aW (by omega) (by omega),?_⟩
     have afP:=(de.1 hy).1
     rw [gX,gQ,lJ,ax]
     refine ⟨aW (by omega) (by omega),?_⟩
     refine dz m3 rfl ?_
     refine BI hv hy fun r=>?_
     simp only [dB,ax,cM,iX,List.drop,oo,iE]
     refine gV (po _ _ _) ?_
     simp only [dA,ax]
     have Kh:fV l fI=y.size.toNat:=by unfold fV; rw [hy]; rfl
     by_cases hwk:1 <= y.size/\y.size <= (n:Int)+x.size - fI
     . simp only [hwk,and_self,bZ,cn]
       refine bO ?_
       refine dj m3 rfl ?_
       refine Ee hv hy fun r=>?_
       simp only [dB,al,cM,iX,List.drop,mB,bN,cr]
       refine ⟨aW (by omega) (by omega),?_⟩
       rw [dP SF]
       refine ⟨⟨rfl,rfl,by simp⟩,?_⟩
       refine NQ _ ⟨hH3.set acE,⟨v',by rw [bf LS]; exact ad6,?_⟩,?_,?_⟩ (by omega) ?_
       . have:fW U (cz.set jO (.box (aK [.int .i64 ((behind l (n+1) ks:Nat):Int)] 0 (aC (.int .i64 ((fI:Int)+y.size)))))) v' 5 1 (ks.length+1) (fR (iB l ks)++[.int .u8 y.kind]):=by
          refine ⟨?_,g3.z,g3.t,sH _⟩
          rcases g3.g with g | ⟨τ,r1,r2,r3⟩
          . exact .inl g
          . exact .inr ⟨τ,r1,by rw [il (gg SF r2).symm]; exact r2,r3⟩
         rw [HD hy]
         simpa [fR] using this
       . rw [bD,AH,Kh]
         have:((fI+y.size.toNat:Nat):Int)=(fI:Int)+y.size:=by omega
         rw [this]; rfl
       . rw [List.all_append,bA]
         simp only [List.all_cons,List.all_nil,Bool.and_true,Bool.true_and,da,Kh]
         omega
       . rw [fT]; exact sB
         rw [dy,if_neg (bV SF sB).symm]
     . simp only [hwk,cE,dx]
       refine ca ?_
       rw [dP m6]
       refine ⟨⟨rfl,rfl,by simp⟩,?_⟩
       refine UZ _ ⟨by rw [bD]; rfl,?_⟩ ?_
       . obtain ⟨r',tG⟩:=pF
         rw [hQ,tG,List.all_append,List.all_cons]
         have:decide (1 <= fV l fI/\(fI:Int)+fV l fI <= n+x.size)=false:=by
          rw [decide_eq_false_iff_not,Kh]; omega
         rw [this]; simp
       . rw [fT]; exact sB
         rw [dy,if_neg (bV m6 sB).symm]
   . obtain ⟨hH,⟨vk,bM,AS⟩,AN,bA⟩:=hI
     have hH':=hH.del (Z5 hH hL)
     have Lo:(af.del o).box jO=some [.int .i64 ((behind l (n+1) ks:Nat):Int)]:=by rw [jv (bV AN hL)]; exact AN
     have za:(af.del o).box sy=some [vk]:=by rw [jv (bV bM hL)]; exact bM
     obtain ⟨mn,me,mt,m3,m4,m6,m7,m8⟩:=mem hH'
     have afC:ks.length <= l.length:=by rw [iq]; exact xd _ _ _ _
     have yg:behind l (n+1) ks <= n+x.size.toNat+n+1:=by
      clear hQ
      rcases List.eq_nil_or_concat ks with h0 | ⟨ks',k,h0⟩
      . rw [h0]; simp [behind]
        try omega
      . rw [h0,List.concat_eq_append,AH]
        rw [h0,List.concat_eq_append,List.all_append,bX] at bA
        have:=bA.2
        simp only [List.all_cons,List.all_nil,Bool.and_true,da] at this
        omega
     refine dj Lo rfl ?_
     refine dj m4 rfl ?_
     refine dj m7 rfl ?_
     rw [cr]
     refine ⟨aW (by omega) (by omega),?_⟩
     refine fh ?_
     rw [<- iq] at hQ
     rw [bA,Bool.true_and] at hQ
     by_cases vL:((behind l (n+1) ks:Nat):Int)=n+x.size
     . rw [decide_eq_true vL,Bool.true_and] at hQ
       simp only [vL,bZ,aI,dN,aB,bq,ct,ax,dI]
       refine dz za rfl ?_
       refine dz m8 rfl ?_
       refine ca ?_
       have ni:cB vk (iB l ks).length (fR (iB l ks)):=by
        have:(iB l ks).length=ks.length:=by simp [iB]
        rw [this]; exact AS.sl
       have nj:=GX hf
       refine Zi ni (by simp [iB]; omega) nj.1 nj.2 fun ub e9=>?_
       simp only [bL,az,if_true,al]
       exact ret _ ub (sH _) ⟨_,e9.bo m6⟩ hQ
     . rw [decide_eq_false vL,Bool.false_and] at hQ
       simp only [vL,cE,aI,show (false == true)=false from rfl,aB,aZ,az,bC,if_false,al]
       refine bO ?_
       exact ret false _ (sH _) ⟨_,m6⟩ hQ
   . have h6:(af.del o).box b6=some [.bool false]:=by rw [jv (bV hJ.1 hL)]; exact hJ.1
     rw [xG h6 rfl]
     refine aj.mk ?_
     have:=h (af.del o) (sH _)
     rw [hJ.2] at this; exact this
end Go.Rip
namespace Go.Rip
open Go.Proofs Go.RowKit
theorem sR (af:St):dD (bJ ⟨.e,0⟩) af:=fun b x h=>by cases h
theorem OB {v:AV} {l:List Nd} {n:Nat} {x:Nd} (hv:cB v l.length (c8 l)) (hc:closed v=true) (hx:l[n]?=some x) (hl:l.length <= 10000) (jh:x.text.length <= 3000):Pure K 131 [.agg [v],.int .i64 (n:Nat),pb] (.bool (jA l n x)) :=
 Pure.of (by simp [cK,closed,hc,show closed pb=true by kernel_rfl]) rfl (fun U=>rfl) fun R hR=>WG hv hx hl jh sR fun af _=>hR af
def kK (l:List Nd):Bool:=match l[0]? with | none=>false | some x0=>decide (x0.kind=1) && (decide (x0.size=((l.length:Nat):Int)) && (List.range l.length).all fun n=>match l[n]? with | some x=>jA l n x | none=>true)
theorem sX {l:List Nd} {x0:Nd} (h0:l[0]?=some x0):kK l=true ↔ (x0.kind=1/\x0.size=l.length/\∀ n x,l[n]?=some x->jA l n x=true):=by
 unfold kK
 rw [h0]
 simp only [bX,da,ep,List.mem_range]
 refine and_congr_right fun _=>and_congr_right fun _=>⟨fun h n x hx=>?_,fun h n hn=>?_⟩
 . have:=h n (de.1 hx).1
   rw [hx] at this; exact this
 . obtain ⟨x,hx⟩:∃ x,l[n]?=some x:=⟨l[n],by simp [hn]⟩
   rw [hx]; exact h n x hx
theorem O4 {l:List Nd} {n:Nat} {x:Nd} (hx:l[n]?=some x) (h:jA l n x=false):kK l=false:=by
 cases h0:l[0]? with
 | none=>unfold kK; rw [h0]
 | some x0 =>
   cases hr:kK l with
   | false=>rfl
   | true=>rw [((sX h0).1 hr).2.2 n x hx] at h; cases h
theorem Mm {v:AV} {l:List Nd} (hv:cB v l.length (c8 l)) (hc:closed v=true) (hl:l.length <= 10000) (jh:∀ x ∈ l,x.text.length <= 3000):Pure K 68 [.agg [v]] (.bool (kK l)):=by
 refine Pure.of (by simp [cK,closed,hc]) rfl (fun U=>rfl) fun R hR=>?_
 refine TG ?_
 unfold VA
 rw [fg rfl]
 intro b1 gl
 have m1:((bJ ⟨.e,0⟩).new b1 (.box (aC (.agg [v])))).box b1=some [v]:=aS
 generalize (bJ _).new b1 _=aw at *
 clear gl
 refine hU (hU (dz m1 rfl ?_))
 rw [hv.len,ax,aT,ax]
 cases h0:l[0]? with
 | none =>
   have rR:l.length=0:=by simpa using h0
   have hq:kK l=false:=by unfold kK; rw [h0]
   simp only [rR,Int.natCast_zero,bZ,aI,show (true == false)=false from rfl,aB,aZ,az,if_true,fZ,ax]
   exact ca (aj.mk (by rw [<- hq]; exact hR _))
 | some x0 =>
   have rR:0 < l.length:=(de.1 h0).1
   have cV:¬ ((l.length:Int)=0):=by omega
   have hQ:kK l=(decide (x0.kind=1) && (decide (x0.size=((l.length:Nat):Int)) && (List.range l.length).all fun n=>match l[n]? with | some x=>jA l n x | none=>true)):=by unfold kK; rw [h0]
   simp only [cV,cE,aI,dN,aB,bq]
   refine hU (hU (dz m1 rfl ?_))
   refine BI (i:=0) hv h0 fun r=>?_
   simp only [dB,ax,dQ,oo,cM,iX,iE,cg,az,bC,if_false]
   by_cases hk:x0.kind=1
   rotate_left
   . simp only [hk,cE,dx,aI,show (true == false)=false from rfl,aB,aZ,az,if_true,fZ,ax]
     exact ca (aj.mk (by rw [show false=kK l by rw [hQ]; simp [hk]]; exact hR _))
   simp only [hk,bZ,cn,aI,dN,aB,bq]
   refine hU (hU (dz m1 rfl ?_))
   refine BI (i:=0) hv h0 fun r=>?_
   simp only [dB,ax,List.drop,oo,cM,iX,iE]
   refine hU (hU (dz m1 rfl ?_))
   rw [hv.len,ax,cg,ax]
   simp only [az,bC,if_false,ax]
   by_cases hs:x0.size=l.length
   rotate_left
   . simp only [hs,cE,dx]
     exact ca (aj.mk (by rw [show false=kK l by rw [hQ]; simp [hk,hs]]; exact hR _))
   simp only [hs,bZ,cn]
   refine bO (Cm.go ?_)
   simp only [ct,al,dI]
   refine dj m1 rfl ?_
   rw [hv.len,al]
   refine ⟨fun m v1 v3 fH v37 af=>∃ i:Nat,m=l.length - i/\i <= l.length/\v1=.box b1 0/\v3=pb/\fH=.int .i64 l.length/\v37=.int .i64 (i:Nat)/\af=aw/\∀ j x,j < i->l[j]?=some x->jA l j x=true,⟨_,0,rfl,by omega,rfl,rfl,rfl,rfl,rfl,fun j x h=>by omega⟩,?_⟩
   rintro m v1 v3 fH v37 af ⟨i,rfl,hi,rfl,rfl,rfl,rfl,rfl,bA⟩
   simp only [a7,al]
   refine cu (fun aM=>?_) fun gq=>?_
   . have aM:i < l.length:=by omega
     obtain ⟨x,hx⟩:∃ x,l[i]?=some x:=⟨l[i],by simp [aM]⟩
     rw [pA m1]
     refine ⟨by simp,?_⟩
     refine (OB hv hc hx hl (jh x (fl hx))).go ?_
     simp only [dA,al]
     cases hq:jA l i x with
     | false=>exact ca (aj.mk (by rw [<- O4 hx hq]; exact hR _))
     | true =>
       refine bO ?_
       rw [cr]
       refine ⟨aW (by omega) (by omega),l.length - (i+1),by omega,i+1,rfl,by omega,rfl,rfl,rfl,by simp,rfl,fun j y hj hy=>?_⟩
       by_cases h:j=i
       . subst h; rw [hx] at hy; cases hy; exact hq
       . exact bA j y (by omega) hy
   . refine aj.mk ?_
     have:kK l=true:=(sX h0).2 ⟨hk,hs,fun n x hx=>bA n x (by have:=(de.1 hx).1; omega) hx⟩
     rw [<- this]; exact hR _
theorem Cd {v:AV} {l:List Nd} (hv:cB v l.length (c8 l)) (hc:closed v=true) (hl:l.length <= 10000) (jh:∀ x ∈ l,x.text.length <= 3000):Pure K 30 [.agg [v]] (.int .i64 (gY l)):=by
 refine Pure.of (by simp [cK,closed,hc]) rfl (fun U=>rfl) fun R hR=>?_
 refine Tv ?_
 unfold Vq
 rw [fg rfl]
 intro b1 gl
 have m1:((bJ ⟨.e,0⟩).new b1 (.box (aC (.agg [v])))).box b1=some [v]:=aS
 generalize (bJ _).new b1 _=aw at *
 clear gl
 simp only [ct,al,dI]
 refine dj m1 rfl ?_
 rw [hv.len,al]
 simp only [cx,al]
 refine cu (fun vO=>?_) fun hle=>?_
 . refine aj.mk ?_
   have:gY l=5:=by unfold gY; rw [if_pos (by omega)]
   rw [<- this]; exact hR _
 rw [pA m1]
 refine ⟨by simp,?_⟩
 refine rL [v] rfl ?_
 refine (Mm hv hc hl jh).go ?_
 simp only [dA,al]
 have h9:¬ 900 < l.length:=by omega
 cases hq:kK l with
 | false =>
   refine ca (aj.mk ?_)
   have:gY l=4:=wI h9 fun h=>by
    obtain ⟨t,rfl,h2,h3⟩:=h
    obtain ⟨x,r,e,_⟩:=t.pR
    have h0:t.flat[0]?=some x:=by rw [e]; rfl
    rw [(sX h0).2 ((Fi h0).2 ⟨t,rfl,h2,h3⟩)] at hq
    cases hq
   rw [<- this]; exact hR _
 | true =>
   refine bO ?_
   rw [pA m1]
   refine ⟨by simp,?_⟩
   cases h0:l[0]? with
   | none=>unfold kK at hq; rw [h0] at hq; cases hq
   | some x0 =>
     have hr:=(sX h0).1 hq
     obtain ⟨t,rfl,h2,h3⟩:=(Fi h0).1 hr
     have cV:t.flat ≠ []:=by intro e; rw [e] at h0; cases h0
     have eH:=(A9 cV (by
      obtain ⟨y,r,e,_⟩:=t.pR
      rw [e] at h0 ⊢; simp at h0; subst h0; have:=hr.2.1; rw [e] at this; exact this) hr.2.2)
     refine (Ll hv hc (by omega) cV (fun x hx=>?_) ?_).go ?_
     . obtain ⟨n,hn,rfl⟩:=List.getElem_of_mem hx
       have:=eH.1.2.2 n t.flat[n] (by simp [hn])
       omega
     . have:=eH.1.2.1; omega
     . rw [Je]
       have DK:gY t.flat=if 60 < t.deep\/24 < t.kids.length then 5 else 0:=by
        rw [yI t h9]; unfold sg; rw [if_neg (by simp [h2,h3])]
       rw [DK] at hR
       by_cases hg:60 < t.deep\/24 < t.kids.length
       . rw [if_pos hg] at hR
         have:(decide (60 < t.deep) || decide (24 < t.kids.length))=true:=by simpa using hg
         rw [this]
         exact ca (aj.mk (hR _))
       . rw [if_neg hg] at hR
         have:(decide (60 < t.deep) || decide (24 < t.kids.length))=false:=by simpa using hg
         rw [this]
         exact bO (aj.mk (hR _))
end Go.Rip
