/- Lemmas for the proof: no conditions. -/
import Derived.Test.YtnfpmiiopiinbaaGreatDoorRipZz
import Derived.Test.YtnfpmiiopiinbaaGreatDoorRipYb
import Derived.Test.YtnfpmiiopiinbaaGreatDoorRipAw
set_option linter.unusedVariables false
set_option linter.unusedSimpArgs false
set_option linter.loopingSimpArgs false
namespace Go.Rip
open Go.Proofs Go.RowKit
def jr (l:List Nd) (k:Nat):aQ:=(l[k]?.map Nd.text).getD []
def mI (l:List Nd) (s:aQ) (ks:List Nat):Option Nat:=ks.find? fun k=>decide (jr l k=s)
noncomputable def qq (l:List Nd) (s:aQ):Nat × Int:=if gg l ≠ 0 then (0,gg l) else match mI l s (gT l 0) with | some k=>(k,0) | none=>(0,7)
theorem xf {l:List Nd}:gQ l 0=gg l:=by
 by_cases hc:gg l=0
 . have h9:¬ 900 < l.length:=fun h=>by unfold gg at hc; rw [if_pos h] at hc; cases hc
   have:∃ t:Tre,l=t.flat/\t.kind=1/\t.ok=true:=Classical.not_not.1 fun h=>by rw [rv h9 h] at hc; cases hc
   obtain ⟨t,rfl,h1,h2⟩:=this
   have:=t.dB
   rw [hc,ur hc (by omega)]
 . exact mU hc
theorem tz {l:List Nd} {k:Nat} {x:Nd} (h:l[k]?=some x):jr l k=x.text:=by unfold jr; rw [h]; rfl
theorem LY {l:List Nd} {s:aQ} {ks r:List Nat} {k:Nat} (h:∀ j ∈ ks,jr l j ≠ s) (hk:jr l k=s):mI l s (ks++k::r)=some k:=by
 unfold mI
 rw [List.find?_append,List.find?_eq_none.2 (fun j hj=>by simpa using h j hj)]
 simp [hk]
theorem LV {l:List Nd} {s:aQ} {ks:List Nat} (h:∀ j ∈ ks,jr l j ≠ s):mI l s ks=none:=by
 unfold mI
 exact List.find?_eq_none.2 fun j hj=>by simpa using h j hj
theorem BK {l:List Nd}:∀ {ts:List Tre} {p:Nat},kD l p ts->∀ i ∈ cE p ts,∃ s,et l i s
 | [],_,_,i,hi=>by simp [cE] at hi
 | t::ts,p,h,i,hi=>by
   simp only [cE,cD] at hi
   rcases hi with rfl | hi
   . exact ⟨t,h.head⟩
   . exact BK h.tail i hi
theorem IP {l:List Nd} {n:Nat} {s:Tre} (h:et l n s):∀ j ∈ gT l n,j < l.length:=by
 intro j hj
 rw [DF h] at hj
 obtain ⟨s',dY⟩:=BK h.kids j hj
 have:=dY.le
 have:=s'.dB
 omega
section
variable {v:AV} {l:List Nd}
theorem Rz {U:St} {R:cA->St->Prop} {t:Tre} {b3:Nat} {s:aQ} (hv:Sl v t.flat) (hl:t.flat.length <= 10000) (m3:U.box b3=some [.str s])
 (h:∀ ad,R (.ret (.aF [.int .i64 (match mI t.flat s (gT t.flat 0) with | some k=>(k:Int) | none=>0),.int .i64 (match mI t.flat s (gT t.flat 0) with | some k=>0 | none=>7)])) ad):ae K 83 [.agg [v],.box b3 0] U R:=by
 refine R5 ?_
 unfold TY
 rw [er rfl]
 intro b2 fY
 have m2:(U.new b2 (.box (au (.agg [v])))).box b2=some [v]:=aK
 have m3:=(a7 fY (x:=.box (au (.agg [v])))).aS m3
 generalize U.new b2 _=ao at *
 rw [cS]
 intro b4 gu
 have m4:(ao.new b4 (.box [.int .i64 0])).box b4=some [.int .i64 0]:=aK
 have Br:=gu.bK m2
 have DK:=gu.bK m3
 have m2:=(a7 gu (x:=.box [.int .i64 0])).aS m2
 have m3:=(a7 gu (x:=.box [.int .i64 0])).aS m3
 generalize ao.new b4 _=aP at *
 rw [cS]
 intro b5 iH
 have m5:(aP.new b5 (.box [.int .i64 0])).box b5=some [.int .i64 0]:=aK
 have n25:=iH.bK m2
 have n35:=iH.bK m3
 have ra:=iH.bK m4
 have m2:=(a7 iH (x:=.box [.int .i64 0])).aS m2
 have m3:=(a7 iH (x:=.box [.int .i64 0])).aS m3
 have m4:=(a7 iH (x:=.box [.int .i64 0])).aS m4
 generalize aP.new b5 _=aZ at *
 refine j6 m2 ?_
 have hs:=et.whole t
 obtain ⟨x,hx,_,Td,_⟩:=hs.mV
 have Q0:=IP hs
 refine p8 (n:=0) hv.s hx (bw (by omega) (by omega)) fun bn be bt bZ d1 d2 d3 f1 f2 f3 q1 q2 q3 e3=>?_
 rw [bu]
 have m2:=e3.aS m2
 have m3:=e3.aS m3
 have n4n:b4 ≠ bn:=fun e=>bG m4 (e ▸ f1)
 have n4e:b4 ≠ be:=fun e=>bG m4 (e ▸ f2)
 have n4t:b4 ≠ bt:=fun e=>bG m4 (e ▸ f3)
 have YH:b5 ≠ bn:=fun e=>bG m5 (e ▸ f1)
 have YG:b5 ≠ be:=fun e=>bG m5 (e ▸ f2)
 have YI:b5 ≠ bt:=fun e=>bG m5 (e ▸ f3)
 have m4:=e3.aS m4
 have m5:=e3.aS m5
 have FC:(((0:Nat):Int)+x.size) <= t.flat.length:=by omega
 have A8:gT t.flat 0=ee t.flat (((0:Nat):Int)+x.size) t.flat.length (0+1):=by
  unfold gT; rw [tw hx,show (x.size.toNat:Int)=x.size by omega]
 refine rF (n:=0) (en:=((0:Nat):Int)+x.size)
  (fun ks ad=>(ad.box bn=some [.int .i64 (0:Nat)]/\ad.box be=some [.int .i64 (((0:Nat):Int)+x.size)]/\ad.box bt=some [v])/\(ad.box b2=some [v]/\ad.box b3=some [.str s])/\(ad.box b4=some [.int .i64 0]/\ad.box b5=some [.int .i64 0])/\∀ j ∈ ks,jr t.flat j ≠ s)
  (fun ad=>∃ k,mI t.flat s (gT t.flat 0)=some k/\ad.box b4=some [.int .i64 (k:Nat)]/\ad.box b5=some [.int .i64 0]) hv.s t.dB (by omega) FC
  (fun ks ad hI=>hI.1) (fun ks ad o L L' hI ho=>?_) (fun ks ad o L hI ho=>?_) (fun ad o L L' hJ ho=>?_) (fun ks fh y ad o L1 q hI hy aO pw Mw qD nU hL Bb FY=>?_) (fun ks ad o L gh hI hL=>?_) (fun ad o L hJ hL=>?_) ⟨⟨q1,q2,q3⟩,⟨m2,m3⟩,⟨m4,m5⟩,by simp⟩
 . have k:∀ {b y},ad.box b=some y->(ad.set o (.loop L')).box b=some y:=fun h=>by rw [aN (aX h ho)]; exact h
   obtain ⟨⟨h1,h2,h3⟩,⟨h4,h5⟩,⟨h6,h7⟩,h8⟩:=hI
   exact ⟨⟨k h1,k h2,k h3⟩,⟨k h4,k h5⟩,⟨k h6,k h7⟩,h8⟩
 . have e:=a7 ho (x:=.loop L)
   obtain ⟨⟨h1,h2,h3⟩,⟨h4,h5⟩,⟨h6,h7⟩,h8⟩:=hI
   exact ⟨⟨e.aS h1,e.aS h2,e.aS h3⟩,⟨e.aS h4,e.aS h5⟩,⟨e.aS h6,e.aS h7⟩,h8⟩
 . have k:∀ {b y},ad.box b=some y->(ad.set o (.loop L')).box b=some y:=fun h=>by rw [aN (aX h ho)]; exact h
   obtain ⟨j,h1,h2,h3⟩:=hJ
   exact ⟨j,h1,k h2,k h3⟩
 . obtain ⟨⟨h1,h2,h3⟩,⟨h4,h5⟩,⟨h6,h7⟩,h8⟩:=hI
   refine gV (gV (dX h4 rfl ?_))
   refine Y2 (hv.fh _) hy (show (cG y)[1]?=some (.str y.text) from rfl) ?_
   refine dX h5 rfl ?_
   rw [ix,aC]
   refine fI (fun he=>?_) fun bT=>?_
   . rw [cX h6]
     refine ⟨⟨rfl,rfl,by simp⟩,?_⟩
     rw [cX (show (ad.set b4 _).box b5=some [.int .i64 0] by rw [aN ra.symm]; exact h7)]
     refine ⟨⟨rfl,rfl,by simp⟩,?_⟩
     refine FY _ ⟨fh,?_,?_,?_⟩ ?_
     . obtain ⟨r,hr⟩:=nU
       rw [A8,hr]
       exact LY h8 ((tz hy).trans he)
     . rw [aN ra,aW]; rfl
     . rw [aW]; rfl
     . have SF:(ad.set b4 (.box (aB [.int .i64 0] 0 (au (.int .i64 (fh:Nat)))))).box b5=some [.int .i64 0]:=by rw [aN ra.symm]; exact h7
       have AW:(ad.set b4 (.box (aB [.int .i64 0] 0 (au (.int .i64 (fh:Nat)))))).loop o=some L1:=by
        rw [dG]; exact hL
        rw [cR,if_neg (aX h6 hL).symm]
       rw [dG]; exact AW
       rw [cR,if_neg (aX SF AW).symm]
   . have dQ:=vw.2.2 fh y hy
     refine Bb _ ⟨⟨h1,h2,h3⟩,⟨h4,h5⟩,⟨h6,h7⟩,fun j hj=>?_⟩ (by omega) hL
     rw [fB] at hj
     rcases hj with hj | hj
     . exact h8 j hj
     . rw [jg] at hj
       rw [hj,tz hy]; exact bT
 . obtain ⟨⟨h1,h2,h3⟩,⟨h4,h5⟩,⟨h6,h7⟩,h8⟩:=hI
   have h6:(ad.del o).box b4=some [.int .i64 0]:=by rw [eM (aX h6 hL)]; exact h6
   have h7:(ad.del o).box b5=some [.int .i64 0]:=by rw [eM (aX h7 hL)]; exact h7
   generalize ad.del o=cC at *
   rw [cX h6]
   refine ⟨⟨rfl,rfl,by simp⟩,?_⟩
   rw [cX (show (cC.set b4 _).box b5=some [.int .i64 0] by rw [aN ra.symm]; exact h7)]
   refine ⟨⟨rfl,rfl,by simp⟩,?_⟩
   rw [qh (show ((cC.set b4 (.box (aB [.int .i64 0] 0 (au (.int .i64 0))))).set b5 (.box (aB [.int .i64 0] 0 (au (.int .i64 7))))).box b4=some [.int .i64 0] by rw [aN ra,aW]; rfl) rfl]
   rw [qh aW rfl]
   refine ak.mk ?_
   have:=h ((cC.set b4 (.box (aB [.int .i64 0] 0 (au (.int .i64 0))))).set b5 (.box (aB [.int .i64 0] 0 (au (.int .i64 7)))))
   rw [A8,<- gh,LV h8] at this
   exact this
 . obtain ⟨k,hf,h6,h7⟩:=hJ
   have h6:(ad.del o).box b4=some [.int .i64 (k:Nat)]:=by rw [eM (aX h6 hL)]; exact h6
   have h7:(ad.del o).box b5=some [.int .i64 0]:=by rw [eM (aX h7 hL)]; exact h7
   generalize ad.del o=cC at *
   rw [qh h6 rfl,qh h7 rfl]
   refine ak.mk ?_
   have:=h cC
   rw [hf] at this
   exact this
theorem LW (hv:Sl v l) (hl:l.length <= 10000) (iX:∀ x ∈ l,x.text.length <= 3000) (s:aQ):Pure K 37 [.agg [v],.str s] (.aF [.int .i64 (qq l s).1,.int .i64 (qq l s).2]):=by
 refine Pure.of (by simp [bY,hv.cl,show closed (.str s)=true from rfl]) rfl (fun U=>rfl) fun R hR=>?_
 refine RP ?_
 unfold TH
 rw [er rfl]
 intro b1 fX
 have m1:((bC ⟨.e,0⟩).new b1 (.box (au (.agg [v])))).box b1=some [v]:=aK
 generalize (bC _).new b1 _=ao at *
 rw [er rfl]
 intro b2 fY
 have m2:(ao.new b2 (.box (au (.str s)))).box b2=some [.str s]:=aK
 have m1:=(a7 fY (x:=.box (au (.str s)))).aS m1
 generalize ao.new b2 _=aP at *
 refine j6 m1 ?_
 have fin:∀ (x e:Int) (ad:St),((qq l s).1:Int)=x->(qq l s).2=e->ag (fun v9 U=>(aR v9 0).wp K U (fun v10 U=>(aR v9 1).wp K U (fun v11 U=>ak R (AV.aF [v10,v11]) U) (aa R)) (aa R)) (aa R) (.ret (.aF [.int .i64 x,.int .i64 e])) ad:=by
  intro x e ad hx he
  subst hx he
  simp only [bu,bB,List.drop,bE]
  exact ak.mk (hR _)
 refine ZF (fs:=[]) (cs:=[.box b2 0]) hv hl iX (by kernel_rfl) (fun ha aZ e2=>?_) (fun ha aZ e2=>?_)
 . rw [xf] at ha ⊢
   have hu:qq l s=(0,gg l):=by unfold qq; rw [if_pos ha]
   exact fin _ _ _ (by rw [hu]; rfl) (by rw [hu])
 have m2:=e2.aS m2
 show ae K 83 [.agg [v],.box b2 0] aZ _
 have hc:¬ gg l ≠ 0:=by rw [xf] at ha; simp [ha]
 obtain ⟨n,t,s',hn,rfl,h1,h2,h3,hs⟩:=xg ha
 refine Rz hv hl m2 fun bZ=>?_
 have hu:qq t.flat s=(match mI t.flat s (gT t.flat 0) with | some k=>(k,0) | none=>(0,7)):=by unfold qq; rw [if_neg hc]
 cases hf:mI t.flat s (gT t.flat 0) with
 | some k =>
   rw [hf] at hu
   exact ⟨_,_,rfl,fun h=>absurd rfl h,fun _=>fin _ _ _ (by rw [hu]) (by rw [hu])⟩
 | none =>
   rw [hf] at hu
   exact ⟨_,_,rfl,fun _=>fin _ _ _ (by rw [hu]; rfl) (by rw [hu]),fun h=>by cases h⟩
end
end Go.Rip
namespace Go.Rip
open Go.Proofs Go.RowKit
theorem ym:∀ {ts:List Tre} {p k:Nat},k ∈ cE p ts->p <= k
 | [],p,k,h=>by simp [cE] at h
 | t::ts,p,k,h=>by
   simp only [cE,cD] at h
   rcases h with rfl | h
   . exact dk _
   . have:=ym h; omega
theorem KS {l:List Nd} {i:Nat} {s:Tre} (h:et l i s):eW l i=s.flat.length:=by
 obtain ⟨x,hx,_,hs,_⟩:=h.mV
 rw [tw hx]; omega
end Go.Rip
namespace Go.Rip
open Go.Proofs Go.RowKit
def seen (l:List Nd) (i:Nat) (ks:List Nat) (k:Nat):Nat:=if (k ≠ 0/\upF l k (k - 1) < i)\/k ∈ ks then 1 else 0
theorem ints_at {v5:AV} {ks:List Nat} {c k:Nat} (hv:dA v5 ks.length (dF ks)) (hx:ks[c]?=some k):∃ r,∀ e,aG (some (e,1)) none v5 (.int .i64 (c:Nat))=.cond (0 <= (c:Int)/\(c:Int) < ks.length) (.val (.cn (.int .i64 (k:Nat)::r))):=by
 have aO:=(c8.1 hx).1
 obtain ⟨r,hr⟩:=Q7 hx
 refine ⟨r,fun e=>?_⟩
 obtain ⟨cc,rfl,q9⟩:=hv.at (sz:=1) (e:=e) aO
 rw [q9,Nat.mul_one,hr]
theorem Y1 {v5:AV} {ks:List Nat} {c k e:Nat} {U:St} {kq:AV->Prop} (hv:dA v5 ks.length (dF ks)) (hx:ks[c]?=some k) (h:kq (.int .i64 (k:Nat))) :
 ax K (aG (some (e,1)) none v5 (.int .i64 (c:Nat))) fun p=>ax K (ah (some (false,1)) p U) kq:=by
 have aO:=(c8.1 hx).1
 obtain ⟨r,hr⟩:=ints_at hv hx
 rw [hr,iD,aC,l9,fi]
 exact ⟨by omega,h⟩
theorem Ty {v5:AV} {ks:List Nat} {c k e:Nat} {U:St} {kq:AV->AV->Prop} (hv:dA v5 ks.length (dF ks)) (hx:ks[c]?=some k) (h:∀ L,kq (.cn L) (.int .i64 (k:Nat))) :
 ax K (aG (some (e,1)) none v5 (.int .i64 (c:Nat))) fun p=>ax K (ah (some (false,1)) p U) (kq p):=by
 have aO:=(c8.1 hx).1
 obtain ⟨r,hr⟩:=ints_at hv hx
 rw [hr,iD,aC,l9,fi]
 exact ⟨by omega,h _⟩
end Go.Rip
