/- Lemmas for the proof: no conditions. -/
import Derived.Test.YtnfpmiiopiinbaaGreatDoorRipZz
import Derived.Test.YtnfpmiiopiinbaaGreatDoorRipYb
import Derived.Test.YtnfpmiiopiinbaaGreatDoorRipAw
set_option linter.unusedVariables false
set_option linter.unusedSimpArgs false
set_option linter.loopingSimpArgs false
namespace Go.Rip
open Go.Proofs Go.RowKit
theorem EH {l:List Nd}:kz l 0=gx l:=by
 by_cases hc:gx l=0
 . have h9:¬ 900 < l.length:=fun h=>by unfold gx at hc; rw [if_pos h] at hc; cases hc
   have:∃ t:Tre,l=t.flat/\t.kind=1/\t.ok=true:=Classical.not_not.1 fun h=>by rw [tL h9 h] at hc; cases hc
   obtain ⟨t,rfl,h1,h2⟩:=this
   have:=t.ef
   rw [hc,Ak hc (by omega)]
 . exact qu hc
section
variable {v:AV} {l:List Nd}
end
end Go.Rip
namespace Go.Rip
open Go.Proofs Go.RowKit
theorem Nw {l:List Nd} {i:Nat} {s:Tre} (h:gm l i s):gi l i=s.flat.length:=by
 obtain ⟨x,hx,_,hs,_⟩:=h.qG
 rw [SB hx]; omega
end Go.Rip
namespace Go.Rip
open Go.Proofs Go.RowKit
def seen (l:List Nd) (i:Nat) (ks:List Nat) (k:Nat):Nat:=if (k ≠ 0/\upF l k (k - 1) < i)\/k ∈ ks then 1 else 0
theorem ints_at {v5:AV} {ks:List Nat} {c k:Nat} (hv:eJ v5 ks.length (iY ks)) (hx:ks[c]?=some k):∃ r,∀ e,aL (some (e,1)) none v5 (.int .i64 (c:Nat))=.cond (0 <= (c:Int)/\(c:Int) < ks.length) (.val (.cN (.int .i64 (k:Nat)::r))):=by
 have aQ:=(dx.1 hx).1
 obtain ⟨r,hr⟩:=Ue hx
 refine ⟨r,fun e=>?_⟩
 obtain ⟨cc,rfl,tw⟩:=hv.at (sz:=1) (e:=e) aQ
 rw [tw,Nat.mul_one,hr]
end Go.Rip
namespace Go.Rip
open Go.Proofs Go.RowKit
def Cy (x:Nd):Nd:={ x with at_:=0 }
def fx (l:List Nd):List Nd:=l.map Cy
noncomputable def ki (l:List Nd):List Nd × Int:=if gx l ≠ 0 then ([],gx l) else (fx l,0)
theorem NB (A B cs:List AV) (o:Nat):ay (A++B) (A.length+o) cs=A++ay B o cs:=by
 simp only [ay,List.take_append,List.drop_append,gn]
 rw [qC (by omega),List.drop_of_length_le (by omega),show A.length+o - A.length=o by omega,show A.length+o+cs.length - A.length=o+cs.length by omega,jN]
theorem Jh {l:List Nd} {i o:Nat} {x y:Nd} {c:AV} (hx:l[i]?=some x) (hc:∀ C:List AV,ay (db x++C) o [c]=db y++C):ay (bK l) (i * 6+o) [c]=bK (l.set i y):=by
 have aQ:=(dx.1 hx).1
 have K6:=(dx.1 hx).2
 have e:l=l.take i++x::l.drop (i+1):=by rw [<- K6,<- gT aQ,List.take_append_drop]
 have hl:(l.take i).length=i:=by simp; omega
 have e2:l.set i y=l.take i++y::l.drop (i+1):=by
  rw [List.set_eq_take_append_cons_drop,if_pos aQ]
 have e3:bK l=bK (l.take i)++(db x++bK (l.drop (i+1))):=by
  conv=>lhs; rw [e]
  simp [bK]
 rw [e2,e3,show i * 6+o=(bK (l.take i)).length+o by rw [jU,hl]; omega,NB,hc]
 simp [bK]
theorem N7 {l:List Nd} {i:Nat} {x:Nd} (hx:l[i]?=some x):((fx (l.take i)++l.drop i).set i (Cy x))=fx (l.take (i+1))++l.drop (i+1):=by
 have aQ:=(dx.1 hx).1
 have K6:=(dx.1 hx).2
 have hl:(fx (l.take i)).length=i:=by simp [fx]; omega
 rw [List.set_append_right _ _ (by omega),hl,Nat.sub_self,gT aQ,List.set_cons_zero,sw,hx]
 simp [fx]
theorem XG {l:List Nd} {i:Nat} {x:Nd} (hx:l[i]?=some x):(fx (l.take i)++l.drop i)[i]?=some x:=by
 have aQ:=(dx.1 hx).1
 have hl:(fx (l.take i)).length=i:=by simp [fx]; omega
 rw [List.getElem?_append_right (by omega),hl,Nat.sub_self,List.getElem?_drop]
 simpa using hx
theorem Tf (l:List Nd) (i:Nat):(fx (l.take i)++l.drop i).length=l.length:=by simp [fx]; omega
section
variable {v:AV} {l:List Nd}
theorem YX {U:St} {b i:Nat} {L:List Nd} {x:Nd} {K':AV->St->Prop} {Kp:AV->St->Prop} {n:Nat} (hb:U.box b=some (bK L)) (hx:L[i]?=some x) (hn:n=L.length) (h:K' (.aH []) (U.set b (.box (bK (L.set i (Cy x)))))) :
 (aL (some (43,6)) none (.ms b 0 n 6 43) (.int .i64 (i:Nat))).wp K U (fun p U=>(af (some 4) p).wp K U (fun q U=>(aF (some (false,1)) q (.int .i64 0) U).wp K U K' Kp) Kp) Kp:=by
 have aQ:=(dx.1 hx).1
 rw [AT,iZ,cU]
 refine ⟨⟨by omega,by omega,rfl⟩,?_⟩
 refine gj ?_
 rw [cI hb]
 refine ⟨⟨rfl,rfl,by rw [jU]; omega⟩,?_⟩
 rw [show au (AV.int .i64 0)=[.int .i64 0] from rfl,Jh (y:=Cy x) hx (fun C=>by simp [ay,db,Cy])]
 exact h
theorem abW {U:St} {R:cR->St->Prop} {p:Int} {g:FuncId} {fs cs:List AV} (hv:Sl v l) (hl:l.length <= 10000) (l8:∀ x ∈ l,x.text.length <= 3000) (hg:eX K.P g=true)
 (h0:kz l p ≠ 0->∀ ad,cW U ad->R (.ret (.aH [.agg [.ah],.int .i64 (kz l p)])) ad)
 (h1:kz l p=0->∀ ad b6,cW U ad->U.live b6=none->ad.box b6=some [.ah]->ae K g (fs++[.agg [v]]++cs) ad fun r τ=>∃ x e,r=.ret (.aH [.agg [x],.int .i64 e])/\x.dc=true/\au x=[x]/\τ.box b6=some [.ah] /\
   (e ≠ 0->∀ iJ,(∀ b y,b ≠ b6->τ.box b=some y->iJ.box b=some y)->R (.ret (.aH [.agg [.ah],.int .i64 e])) iJ)/\(e=0->∀ z1 z2,R (.ret (.aH [.agg [x],.int .i64 0])) ((τ.set b6 (.box z1)).set b6 (.box z2)))):ae K 87 [.agg [v],.int .i64 p,.func (.func g) fs cs] U R:=by
 refine Vc ?_
 unfold Xd
 rw [fA rfl]
 intro b1 gQ
 have m1:(U.new b1 (.box (au (.agg [v])))).box b1=some [v]:=aG
 have e1:=bg gQ (x:=.box (au (.agg [v])))
 generalize U.new b1 _=aq at *
 rw [cz]
 intro b6 rU
 have m6:(aq.new b6 (.box [AV.ah])).box b6=some [.ah]:=aG
 have m1:=(bg rU (x:=.box [AV.ah])).aX m1
 have f6:=e1.fresh rU.1
 have e6:=e1.new rU (x:=.box [AV.ah])
 generalize aq.new b6 _=aR at *
 have bad:∀ e:Int,e=kz l p->kz l p ≠ 0->(aj (some (true,1)) (.box b6 0) aR).wp K aR (fun ct U=>(aF (some (true,1)) (.box b6 0) ct U).wp K U (fun _ U=>bq (some (true,1)) (.box b6 0) U fun r0=>ak R (AV.aH [r0,.int .i64 e]) U) (aa R)) (aa R):=by
  intro e he hn
  subst he
  refine kx m6 ?_
  rw [cI m6]
  refine ⟨⟨rfl,rfl,by simp⟩,?_⟩
  rw [oW aV]
  exact ⟨by simp [ay],ak.mk (h0 hn _ (e6.set f6))⟩
 refine kx m1 ((CC hv.s hv.c hl l8).go ?_)
 rw [dp,al]
 by_cases hc:gx l=0
 rotate_left
 . simp only [hc,eB,eQ]
   exact dP (bad _ (qu hc).symm (by rw [qu hc]; exact hc))
 simp only [hc,du,c8]
 refine dC (gj (dY m1 rfl ?_))
 rw [hv.s.len,al,kT,gL,wp_cond,al]
 refine ⟨bI (by omega) (by omega),JC ?_⟩
 simp only [ey,al]
 by_cases hp:0 <= p/\p <= (l.length:Int) - 1
 rotate_left
 . simp only [hp,eB,eQ]
   have:=G9 hc hp
   exact dP (bad 3 this.symm (by rw [this]; decide))
 simp only [hp,and_self,du,c8]
 refine dC (kx m1 (oQ [v] rfl ?_))
 rw [SW hg]
 refine (h1 (Ak hc hp) aR b6 e6 f6 m6).mono fun r τ hr=>?_
 obtain ⟨x,e,rfl,hx1,Wq,m6,h2,h3⟩:=hr
 simp only [bB,bu,List.drop,bA]
 rw [cI m6]
 refine ⟨⟨rfl,rfl,by simp⟩,?_⟩
 have FN:(τ.set b6 (.box (ay [AV.ah] 0 (au (.agg [x]))))).box b6=some [x]:=by rw [aV]; rfl
 rw [dp,al]
 by_cases he:e=0
 . simp only [he,du,c8]
   refine dC (kx FN ?_)
   rw [cI FN]
   refine ⟨⟨rfl,rfl,by simp⟩,?_⟩
   rw [oW aV]
   refine ⟨by simp [ay],ak.mk ?_⟩
   exact h3 he _ _
 . simp only [he,eB,eQ]
   refine dP ?_
   rw [cz]
   intro b8 rn
   have m8:((τ.set b6 (.box (ay [AV.ah] 0 (au (.agg [x]))))).new b8 (.box [AV.ah])).box b8=some [.ah]:=aG
   have afP:=(bg rn (x:=.box [AV.ah])).aX FN
   refine kx m8 ?_
   rw [cI afP]
   refine ⟨⟨rfl,rfl,by simp⟩,?_⟩
   rw [oW aV]
   refine ⟨by simp [ay],ak.mk (h2 he _ fun b y hb hy=>?_)⟩
   rw [aO hb]
   refine (bg rn (x:=.box [AV.ah])).aX ?_
   rw [aO hb]; exact hy
end
end Go.Rip
namespace Go.Rip
open Go.Proofs Go.RowKit
section
variable {v:AV} {l:List Nd}
theorem UD {U:St} {R:cR->St->Prop} (hv:Sl v l) (cn:l ≠ []) (hl:l.length <= 10000) (h:∀ ad b,cW U ad->U.live b=none->ad.box b=some (bK (fx l))->R (.ret (.aH [.agg [.ms b 0 l.length 6 43],.int .i64 0])) ad):ae K 88 [.agg [v]] U R:=by
 refine Vd ?_
 unfold Xe
 rw [fA rfl]
 intro b1 gQ
 have m1:(U.new b1 (.box (au (.agg [v])))).box b1=some [v]:=aG
 have e1:=bg gQ (x:=.box (au (.agg [v])))
 generalize U.new b1 _=aq at *
 rw [cz]
 intro b2 gg
 have m2:(aq.new b2 (.box [AV.ah])).box b2=some [.ah]:=aG
 have m1:=(bg gg (x:=.box [AV.ah])).aX m1
 have f2:=e1.fresh gg.1
 have e2:=e1.new gg (x:=.box [AV.ah])
 generalize aq.new b2 (.box [AV.ah])=aR at *
 refine gj (gj (dY m1 rfl ?_))
 obtain ⟨c,rfl⟩:∃ c,v=.vec l.length c (bK l):=by
  rcases hv.s with ⟨h0,_,_⟩ | ⟨c,hc⟩
  . exact absurd (sv.1 h0) cn
  . exact ⟨c,hc⟩
 refine Tl cn (by omega) fun a7 b e3 fb mb=>?_
 rw [bB]
 have WB:b2 ≠ b:=fun e=>cj m2 (e ▸ fb)
 have m2:=e3.aX m2
 have fb':=e2.fresh fb
 have e3:=e2.trans e3
 refine oQ [.ms b 0 l.length 6 43] rfl ?_
 rw [cz]
 intro b4 gN
 have m4:(a7.new b4 (.box [AV.ah])).box b4=some [.ah]:=aG
 have n4b:=gN.bP mb
 have n42:=gN.bP m2
 have f4:=e3.fresh gN.1
 have mb:=(bg gN (x:=.box [AV.ah])).aX mb
 have m2:=(bg gN (x:=.box [AV.ah])).aX m2
 have e4:=e3.new gN (x:=.box [AV.ah])
 generalize a7.new b4 (.box [AV.ah])=bO at *
 rw [cI m4]
 refine ⟨⟨rfl,rfl,by simp⟩,?_⟩
 have k4:(bO.set b4 (.box (ay [AV.ah] 0 (au (.agg [.ms b 0 l.length 6 43]))))).box b4=some [.ms b 0 l.length 6 43]:=by rw [aV]; rfl
 have kb:(bO.set b4 (.box (ay [AV.ah] 0 (au (.agg [.ms b 0 l.length 6 43]))))).box b=some (bK l):=by rw [aO n4b]; exact mb
 have k2:(bO.set b4 (.box (ay [AV.ah] 0 (au (.agg [.ms b 0 l.length 6 43]))))).box b2=some [.ah]:=by rw [aO n42]; exact m2
 have e5:=e4.set f4 (x:=.box (ay [AV.ah] 0 (au (.agg [.ms b 0 l.length 6 43]))))
 generalize bO.set b4 _=cG at *
 refine gj (dY k4 rfl ?_)
 rw [show cw (some false) (AV.ms b 0 l.length 6 43)=.val (.int .i64 l.length) from rfl,al]
 refine ⟨fun m v2 v4 ck ct ad=>∃ i:Nat,m=l.length - i/\i <= l.length/\v2=.box b2 0/\v4=.box b4 0/\ck=.int .i64 l.length/\ct=.int .i64 (i:Nat)/\ad.box b2=some [.ah]/\ad.box b4=some [.ms b 0 l.length 6 43]/\ad.box b=some (bK (fx (l.take i)++l.drop i))/\cW U ad,
  ⟨_,0,rfl,by omega,rfl,rfl,rfl,rfl,k2,k4,by simpa [fx] using kb,e5⟩,?_⟩
 rintro m v2 v4 ck ct ad ⟨i,rfl,hi,rfl,rfl,rfl,rfl,k2,k4,kb,e⟩
 rw [cb,al]
 refine gZ (fun aQ=>?_) fun kn=>?_
 . have aQ:i < l.length:=by omega
   obtain ⟨x,hx⟩:∃ x,l[i]?=some x:=⟨l[i],by simp [aQ]⟩
   refine gj (dY k4 rfl ?_)
   refine YX kb (XG hx) (Tf l i).symm ?_
   rw [N7 hx,dN]
   refine ⟨bI (by omega) (by omega),l.length - (i+1),by omega,i+1,rfl,by omega,rfl,rfl,rfl,by simp,?_,?_,aV,e.set fb'⟩
   . rw [aO WB]; exact k2
   . rw [aO n4b.symm]; exact k4
 . have hi:i=l.length:=by omega
   subst hi
   refine kx k4 ?_
   rw [cI k2]
   refine ⟨⟨rfl,rfl,by simp⟩,?_⟩
   rw [oW aV]
   refine ⟨by simp [ay],ak.mk (h _ b (e.set f2) fb' ?_)⟩
   rw [aO WB.symm,kb]; simp [fx]
theorem Te (h:l ≠ []):fx l ≠ []:=by simp [fx,h]
theorem N5:(fx l).length=l.length:=by simp [fx]
theorem N6 (hv:Sl v l) (hl:l.length <= 10000) (l8:∀ x ∈ l,x.text.length <= 3000):Pure K 40 [.agg [v]] (.aH [.agg [eT (ki l).1],.int .i64 (ki l).2]):=by
 refine Pure.PO (by simp [cA,hv.cl]) (by simp [closed,cA,pX]) fun R hR=>?_
 refine UW ?_
 unfold WX
 rw [fA rfl]
 intro b1 gQ
 have m1:((bM ⟨.e,0⟩).new b1 (.box (au (.agg [v])))).box b1=some [v]:=aG
 generalize (bM _).new b1 _=aq at *
 rw [cz]
 intro b2 gg
 have m2:(aq.new b2 (.box [AV.ah])).box b2=some [.ah]:=aG
 have m1:=(bg gg (x:=.box [AV.ah])).aX m1
 generalize aq.new b2 (.box [AV.ah])=aR at *
 refine kx m1 ?_
 have fin:∀ (x:AV) (e:Int) (ad:St),ad.box b2=some [.ah]->x.dc=true->au x=[x]->(∀ z,resolve 3 (ad.set b2 (.box z)) x=eT (ki l).1)->e=(ki l).2->ag (fun v5 U=>(aT v5 0).wp K U (fun v6 U=>(aT v5 1).wp K U (fun v7 U=>(aF (some (true,1)) (.box b2 0) v6 U).wp K U (fun _ U=>bq (some (true,1)) (.box b2 0) U fun r0=>ak R (AV.aH [r0,v7]) U) (aa R)) (aa R)) (aa R)) (aa R) (.ret (.aH [.agg [x],.int .i64 e])) ad:=by
  intro x e ad hb hx1 Wq hr he
  subst he
  simp only [bB,bu,List.drop,bA]
  rw [cI hb]
  refine ⟨⟨rfl,rfl,by simp⟩,?_⟩
  rw [oW aV]
  refine ⟨by simp [ay],ak.mk (hR _ _ ?_)⟩
  show AV.aH [.agg [resolve 3 _ x],_]=_
  rw [hr]; rfl
 refine abW (fs:=[]) (cs:=[]) hv hl l8 (by kernel_rfl) (fun ha bO e3=>?_) (fun ha bO b6 e3 f6 m6=>?_)
 . rw [EH] at ha ⊢
   have hu:ki l=([],gx l):=by unfold ki; rw [if_pos ha]
   exact fin _ _ _ (e3.aX m2) rfl rfl (fun z=>by rw [hu]; rfl) (by rw [hu])
 have m2:=e3.aX m2
 have hc:gx l=0:=by rw [EH] at ha; exact ha
 have hu:ki l=(fx l,0):=by unfold ki; rw [if_neg (by simp [hc])]
 have cn:l ≠ []:=by
  obtain ⟨n,t,s',hn,rfl,h1,h2,h3,hs⟩:=EI ha
  intro e
  have:=t.ef
  rw [e] at this; simp at this
 have n26:b2 ≠ b6:=fun e=>cj (by assumption:aR.box b2=some [AV.ah]) (e ▸ f6)
 show ae K 88 [.agg [v]] bO _
 refine UD hv cn hl fun cG b e4 fb mb=>?_
 have WB:b2 ≠ b:=fun e=>cj m2 (e ▸ fb)
 have n6b:b6 ≠ b:=fun e=>cj m6 (e ▸ fb)
 have m2:=e4.aX m2
 refine ⟨_,_,rfl,rfl,rfl,e4.aX m6,fun h=>absurd rfl h,fun _ z1 z2=>fin _ _ _ ?_ rfl rfl (fun z=>?_) (by rw [hu])⟩
 . rw [aO n26,aO n26]; exact m2
 . rw [hu,<- N5 (l:=l)]
   exact BE (by rw [aO WB.symm,aO n6b.symm,aO n6b.symm]; exact mb) (Te cn)
end
end Go.Rip
