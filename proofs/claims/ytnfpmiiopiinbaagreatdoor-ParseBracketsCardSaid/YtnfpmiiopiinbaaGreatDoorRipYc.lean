/- Lemmas for the proof: no conditions. -/
import Derived.Test.YtnfpmiiopiinbaaGreatDoorRipZz
import Derived.Test.YtnfpmiiopiinbaaGreatDoorRipYb
import Derived.Test.YtnfpmiiopiinbaaGreatDoorRipAw
set_option linter.unusedVariables false
set_option linter.unusedSimpArgs false
set_option linter.loopingSimpArgs false
namespace Go.Rip
open Go.Proofs Go.RowKit
theorem Au {l:List Nd}:lG l 0=fR l:=by
 by_cases hc:fR l=0
 . have h9:¬ 900<l.length:=λ h=>by unfold fR at hc; rw[if_pos h]at hc; cases hc
   have:∃ t:Tre,l=t.flat/\t.kind=1/\t.ok=true:=Classical.not_not.1 λ h=>by rw[uW h9 h]at hc; cases hc
   obtain⟨t,rfl,h1,h2⟩:=this;have:=t.dJ;rw[hc,BZ hc (by omega)]
 . exact ti hc
section
variable {v:AV} {l:List Nd}
end
end Go.Rip
namespace Go.Rip
open Go.Proofs Go.RowKit
theorem QU {l:List Nd} {i:Nat} {s:Tre} (h:gT l i s):gV l i=s.flat.length:=by
 obtain⟨x,hx,_,hs,_⟩:=h.sn;rw[V9 hx]; omega
end Go.Rip
namespace Go.Rip
open Go.Proofs Go.RowKit
def seen (l:List Nd) (i:Nat) (ks:List Nat) (k:Nat):Nat:=if (k≠0/\upF l k (k-1)<i)\/k∈ks then 1 else 0
theorem ints_at {v5:AV} {ks:List Nat} {c k:Nat} (hv:eW v5 ks.length (iX ks)) (hx:ks[c]?=some k):∃ r,∀ e,aE (some (e,1)) none v5 (.int .i64 (c:Nat))=.cond (0<=(c:Int)/\(c:Int)<ks.length) (.val (.da (.int .i64 (k:Nat)::r))):=by
 have aN:=(dp.1 hx).1;obtain⟨r,hr⟩:=Xy hx;refine⟨r,λ e=>?_⟩;obtain⟨cc,rfl,uO⟩:=hv.at (sz:=1) (e:=e) aN;rw[uO,Nat.mul_one,hr]
end Go.Rip
namespace Go.Rip
open Go.Proofs Go.RowKit
def Eg (x:Nd):Nd:={ x with at_:=0 }
def eU (l:List Nd):List Nd:=l.map Eg
noncomputable def lq (l:List Nd):List Nd×Int:=if fR l≠0 then ([],fR l) else (eU l,0)
theorem QZ (A B cs:List AV) (o:Nat):ay (A++B) (A.length+o) cs=A++ay B o cs:=by
 simp only[ay,List.take_append,List.drop_append,dc];rw[qg (by omega),List.drop_of_length_le (by omega),show A.length+o-A.length=o by omega,show A.length+o+cs.length-A.length=o+cs.length by omega,eH]
theorem L6 {l:List Nd} {i o:Nat} {x y:Nd} {c:AV} (hx:l[i]?=some x) (hc:∀ C:List AV,ay (dA x++C) o [c]=dA y++C):ay (cg l) (i*6+o) [c]=cg (l.set i y):=by
 have aN:=(dp.1 hx).1;have Oe:=(dp.1 hx).2;have e:l=l.take i++x::l.drop (i+1):=by rw[<- Oe,<- gM aN,List.take_append_drop]
 have hl:(l.take i).length=i:=by simp; omega
 have e2:l.set i y=l.take i++y::l.drop (i+1):=by
  rw[List.set_eq_take_append_cons_drop,if_pos aN]
 have e3:cg l=cg (l.take i)++(dA x++cg (l.drop (i+1))):=by
  conv=>lhs; rw[e]
  simp[cg]
 rw[e2,e3,show i*6+o=(cg (l.take i)).length+o by rw[mf,hl]; omega,QZ,hc];simp[cg]
theorem RA {l:List Nd} {i:Nat} {x:Nd} (hx:l[i]?=some x):((eU (l.take i)++l.drop i).set i (Eg x))=eU (l.take (i+1))++l.drop (i+1):=by
 have aN:=(dp.1 hx).1;have Oe:=(dp.1 hx).2;have hl:(eU (l.take i)).length=i:=by simp[eU]; omega
 rw[List.set_append_right _ _ (by omega),hl,Nat.sub_self,gM aN,List.set_cons_zero,tK,hx];simp[eU]
theorem aa4 {l:List Nd} {i:Nat} {x:Nd} (hx:l[i]?=some x):(eU (l.take i)++l.drop i)[i]?=some x:=by
 have aN:=(dp.1 hx).1;have hl:(eU (l.take i)).length=i:=by simp[eU]; omega
 rw[List.getElem?_append_right (by omega),hl,Nat.sub_self,List.getElem?_drop];simpa using hx
theorem WG (l:List Nd) (i:Nat):(eU (l.take i)++l.drop i).length=l.length:=by simp[eU]; omega
section
variable {v:AV} {l:List Nd}
theorem acu {U:St} {b i:Nat} {L:List Nd} {x:Nd} {K':AV->St->Prop} {Kp:AV->St->Prop} {n:Nat} (hb:U.box b=some (cg L)) (hx:L[i]?=some x) (hn:n=L.length) (h:K' (.aK []) (U.set b (.box (cg (L.set i (Eg x)))))) :
 (aE (some (43,6)) none (.ms b 0 n 6 43) (.int .i64 (i:Nat))).wp K U (λ p U=>(af (some 4) p).wp K U (λ q U=>(aI (some (false,1)) q (.int .i64 0) U).wp K U K' Kp) Kp) Kp:=by
 have aN:=(dp.1 hx).1;rw[CC,fW,db];refine⟨⟨by omega,by omega,rfl⟩,?_⟩;refine gR ?_;rw[cI hb];refine⟨⟨rfl,rfl,by rw[mf]; omega⟩,?_⟩;rw[show av (AV.int .i64 0)=[.int .i64 0] from rfl,L6 (y:=Eg x) hx (λ C=>by simp[ay,dA,Eg])];exact h
theorem afB {U:St} {R:cV->St->Prop} {p:Int} {g:FuncId} {fs cs:List AV} (hv:Sl v l) (hl:l.length<=10000) (jV:∀ x∈l,x.text.length<=3000) (hg:fC K.P g=true)
 (h0:lG l p≠0->∀ ad,cX U ad->R (.ret (.aK [.agg [.ag],.int .i64 (lG l p)])) ad)
 (h1:lG l p=0->∀ ad b6,cX U ad->U.live b6=none->ad.box b6=some [.ag]->ae K g (fs++[.agg [v]]++cs) ad λ r τ=>∃ x e,r=.ret (.aK [.agg [x],.int .i64 e])/\x.dw=true/\av x=[x]/\τ.box b6=some [.ag] /\
   (e≠0->∀ ju,(∀ b y,b≠b6->τ.box b=some y->ju.box b=some y)->R (.ret (.aK [.agg [.ag],.int .i64 e])) ju)/\(e=0->∀ z1 z2,R (.ret (.aK [.agg [x],.int .i64 0])) ((τ.set b6 (.box z1)).set b6 (.box z2)))):ae K 87 [.agg [v],.int .i64 p,.func (.func g) fs cs] U R:=by
 refine Yy ?_;unfold aaD;rw[gd rfl];intro b1 iN;have m1:(U.new b1 (.box (av (.agg [v])))).box b1=some [v]:=aD;have e1:=bg iN (x:=.box (av (.agg [v])));generalize U.new b1 _=ar at *;rw[cm];intro b6 rW;have m6:(ar.new b6 (.box [AV.ag])).box b6=some [.ag]:=aD;have m1:=(bg rW (x:=.box [AV.ag])).aY m1;have f6:=e1.fresh rW.1;have e6:=e1.new rW (x:=.box [AV.ag]);generalize ar.new b6 _=aS at *;have bad:∀ e:Int,e=lG l p->lG l p≠0->(ak (some (true,1)) (.box b6 0) aS).wp K aS (λ cA U=>(aI (some (true,1)) (.box b6 0) cA U).wp K U (λ _ U=>bD (some (true,1)) (.box b6 0) U λ r0=>aq R (AV.aK [r0,.int .i64 e]) U) (aa R)) (aa R):=by
  intro e he hn;subst he;refine lX m6 ?_;rw[cI m6];refine⟨⟨rfl,rfl,by simp⟩,?_⟩;rw[pT aT];exact⟨by simp[ay],aq.mk (h0 hn _ (e6.set f6))⟩
 refine lX m1 ((El hv.s hv.c hl jV).go ?_);rw[c8,al]
 by_cases hc:fR l=0
 rotate_left
 . simp only[hc,eS,fx];exact dz (bad _ (ti hc).symm (by rw[ti hc]; exact hc))
 simp only[hc,dG,dm];refine cY (gR (ej m1 rfl ?_));rw[hv.s.len,al,l9,iv,wp_cond,al];refine⟨bI (by omega) (by omega),My ?_⟩;simp only[eT,al]
 by_cases hp:0<=p/\p<=(l.length:Int)-1
 rotate_left
 . simp only[hp,eS,fx];have:=JJ hc hp;exact dz (bad 3 this.symm (by rw[this]; decide))
 simp only[hp,and_self,dG,dm];refine cY (lX m1 (pK [v] rfl ?_));rw[Ws hg];refine (h1 (BZ hc hp) aS b6 e6 f6 m6).mono λ r τ hr=>?_;obtain⟨x,e,rfl,hx1,ZW,m6,h2,h3⟩:=hr;simp only[bE,bp,List.drop,bC];rw[cI m6];refine⟨⟨rfl,rfl,by simp⟩,?_⟩;have H5:(τ.set b6 (.box (ay [AV.ag] 0 (av (.agg [x]))))).box b6=some [x]:=by rw[aT]; rfl
 rw[c8,al]
 by_cases he:e=0
 . simp only[he,dG,dm];refine cY (lX H5 ?_);rw[cI H5];refine⟨⟨rfl,rfl,by simp⟩,?_⟩;rw[pT aT];refine⟨by simp[ay],aq.mk ?_⟩;exact h3 he _ _
 . simp only[he,eS,fx];refine dz ?_;rw[cm];intro b8 sy;have m8:((τ.set b6 (.box (ay [AV.ag] 0 (av (.agg [x]))))).new b8 (.box [AV.ag])).box b8=some [.ag]:=aD;have ajm:=(bg sy (x:=.box [AV.ag])).aY H5;refine lX m8 ?_;rw[cI ajm];refine⟨⟨rfl,rfl,by simp⟩,?_⟩;rw[pT aT];refine⟨by simp[ay],aq.mk (h2 he _ λ b y hb hy=>?_)⟩;rw[aO hb];refine (bg sy (x:=.box [AV.ag])).aY ?_;rw[aO hb]; exact hy
end
end Go.Rip
namespace Go.Rip
open Go.Proofs Go.RowKit
section
variable {v:AV} {l:List Nd}
theorem XZ {U:St} {R:cV->St->Prop} (hv:Sl v l) (ca:l≠[]) (hl:l.length<=10000) (h:∀ ad b,cX U ad->U.live b=none->ad.box b=some (cg (eU l))->R (.ret (.aK [.agg [.ms b 0 l.length 6 43],.int .i64 0])) ad):ae K 88 [.agg [v]] U R:=by
 refine Yz ?_;unfold aaE;rw[gd rfl];intro b1 iN;have m1:(U.new b1 (.box (av (.agg [v])))).box b1=some [v]:=aD;have e1:=bg iN (x:=.box (av (.agg [v])));generalize U.new b1 _=ar at *;rw[cm];intro b2 gz;have m2:(ar.new b2 (.box [AV.ag])).box b2=some [.ag]:=aD;have m1:=(bg gz (x:=.box [AV.ag])).aY m1;have f2:=e1.fresh gz.1;have e2:=e1.new gz (x:=.box [AV.ag]);generalize ar.new b2 (.box [AV.ag])=aS at *;refine gR (gR (ej m1 rfl ?_));obtain⟨c,rfl⟩:∃ c,v=.vec l.length c (cg l):=by
  rcases hv.s with ⟨h0,_,_⟩|⟨c,hc⟩
  . exact absurd (rL.1 h0) ca
  . exact⟨c,hc⟩
 refine WK ca (by omega) λ bf b e3 fb mb=>?_;rw[bE];have Z8:b2≠b:=λ e=>ct m2 (e▸fb);have m2:=e3.aY m2;have fb':=e2.fresh fb;have e3:=e2.trans e3;refine pK [.ms b 0 l.length 6 43] rfl ?_;rw[cm];intro b4 gk;have m4:(bf.new b4 (.box [AV.ag])).box b4=some [.ag]:=aD;have n4b:=gk.bO mb;have n42:=gk.bO m2;have f4:=e3.fresh gk.1;have mb:=(bg gk (x:=.box [AV.ag])).aY mb;have m2:=(bg gk (x:=.box [AV.ag])).aY m2;have e4:=e3.new gk (x:=.box [AV.ag]);generalize bf.new b4 (.box [AV.ag])=bR at *;rw[cI m4];refine⟨⟨rfl,rfl,by simp⟩,?_⟩;have k4:(bR.set b4 (.box (ay [AV.ag] 0 (av (.agg [.ms b 0 l.length 6 43]))))).box b4=some [.ms b 0 l.length 6 43]:=by rw[aT]; rfl
 have kb:(bR.set b4 (.box (ay [AV.ag] 0 (av (.agg [.ms b 0 l.length 6 43]))))).box b=some (cg l):=by rw[aO n4b]; exact mb
 have k2:(bR.set b4 (.box (ay [AV.ag] 0 (av (.agg [.ms b 0 l.length 6 43]))))).box b2=some [.ag]:=by rw[aO n42]; exact m2
 have e5:=e4.set f4 (x:=.box (ay [AV.ag] 0 (av (.agg [.ms b 0 l.length 6 43]))));generalize bR.set b4 _=cP at *;refine gR (ej k4 rfl ?_);rw[show cr (some false) (AV.ms b 0 l.length 6 43)=.val (.int .i64 l.length) from rfl,al];refine⟨λ m v2 v4 cn cA ad=>∃ i:Nat,m=l.length-i/\i<=l.length/\v2=.box b2 0/\v4=.box b4 0/\cn=.int .i64 l.length/\cA=.int .i64 (i:Nat)/\ad.box b2=some [.ag]/\ad.box b4=some [.ms b 0 l.length 6 43]/\ad.box b=some (cg (eU (l.take i)++l.drop i))/\cX U ad,
  ⟨_,0,rfl,by omega,rfl,rfl,rfl,rfl,k2,k4,by simpa [eU] using kb,e5⟩,?_⟩
 rintro m v2 v4 cn cA ad ⟨i,rfl,hi,rfl,rfl,rfl,rfl,k2,k4,kb,e⟩;rw[bV,al];refine ic (λ aN=>?_) λ kV=>?_
 . have aN:i<l.length:=by omega
   obtain⟨x,hx⟩:∃ x,l[i]?=some x:=⟨l[i],by simp[aN]⟩;refine gR (ej k4 rfl ?_);refine acu kb (aa4 hx) (WG l i).symm ?_;rw[RA hx,dO];refine⟨bI (by omega) (by omega),l.length-(i+1),by omega,i+1,rfl,by omega,rfl,rfl,rfl,by simp,?_,?_,aT,e.set fb'⟩
   . rw[aO Z8]; exact k2
   . rw[aO n4b.symm]; exact k4
 . have hi:i=l.length:=by omega
   subst hi;refine lX k4 ?_;rw[cI k2];refine⟨⟨rfl,rfl,by simp⟩,?_⟩;rw[pT aT];refine⟨by simp[ay],aq.mk (h _ b (e.set f2) fb' ?_)⟩;rw[aO Z8.symm,kb]; simp[eU]
theorem WE (h:l≠[]):eU l≠[]:=by simp[eU,h]
theorem Ry:(eU l).length=l.length:=by simp[eU]
theorem Rz (hv:Sl v l) (hl:l.length<=10000) (jV:∀ x∈l,x.text.length<=3000):Pure K 40 [.agg [v]] (.aK [.agg [fg (lq l).1],.int .i64 (lq l).2]):=by
 refine Pure.OF (by simp[cD,hv.cl]) (by simp[closed,cD,qR]) λ R hR=>?_;refine Yj ?_;unfold aao;rw[gd rfl];intro b1 iN;have m1:((bU ⟨.e,0⟩).new b1 (.box (av (.agg [v])))).box b1=some [v]:=aD;generalize (bU _).new b1 _=ar at *;rw[cm];intro b2 gz;have m2:(ar.new b2 (.box [AV.ag])).box b2=some [.ag]:=aD;have m1:=(bg gz (x:=.box [AV.ag])).aY m1;generalize ar.new b2 (.box [AV.ag])=aS at *;refine lX m1 ?_;have fin:∀ (x:AV) (e:Int) (ad:St),ad.box b2=some [.ag]->x.dw=true->av x=[x]->(∀ z,resolve 3 (ad.set b2 (.box z)) x=fg (lq l).1)->e=(lq l).2->ah (λ v5 U=>(aU v5 0).wp K U (λ v6 U=>(aU v5 1).wp K U (λ v7 U=>(aI (some (true,1)) (.box b2 0) v6 U).wp K U (λ _ U=>bD (some (true,1)) (.box b2 0) U λ r0=>aq R (AV.aK [r0,v7]) U) (aa R)) (aa R)) (aa R)) (aa R) (.ret (.aK [.agg [x],.int .i64 e])) ad:=by
  intro x e ad hb hx1 ZW hr he;subst he;simp only[bE,bp,List.drop,bC];rw[cI hb];refine⟨⟨rfl,rfl,by simp⟩,?_⟩;rw[pT aT];refine⟨by simp[ay],aq.mk (hR _ _ ?_)⟩;show AV.aK [.agg [resolve 3 _ x],_]=_;rw[hr]; rfl
 refine afB (fs:=[]) (cs:=[]) hv hl jV (by kernel_rfl) (λ ha bR e3=>?_) (λ ha bR b6 e3 f6 m6=>?_)
 . rw[Au]at ha ⊢;have hu:lq l=([],fR l):=by unfold lq; rw[if_pos ha]
   exact fin _ _ _ (e3.aY m2) rfl rfl (λ z=>by rw[hu]; rfl) (by rw[hu])
 have m2:=e3.aY m2;have hc:fR l=0:=by rw[Au]at ha; exact ha
 have hu:lq l=(eU l,0):=by unfold lq; rw[if_neg (by simp[hc])]
 have ca:l≠[]:=by
  obtain⟨n,t,s',hn,rfl,h1,h2,h3,hs⟩:=G3 ha;intro e;have:=t.dJ;rw[e]at this; simp at this
 have n26:b2≠b6:=λ e=>ct (by assumption:aS.box b2=some [AV.ag]) (e▸f6);show ae K 88 [.agg [v]] bR _;refine XZ hv ca hl λ cP b e4 fb mb=>?_;have Z8:b2≠b:=λ e=>ct m2 (e▸fb);have n6b:b6≠b:=λ e=>ct m6 (e▸fb);have m2:=e4.aY m2;refine⟨_,_,rfl,rfl,rfl,e4.aY m6,λ h=>absurd rfl h,λ _ z1 z2=>fin _ _ _ ?_ rfl rfl (λ z=>?_) (by rw[hu])⟩
 . rw[aO n26,aO n26]; exact m2
 . rw[hu,<- Ry (l:=l)];exact Dc (by rw[aO Z8.symm,aO n6b.symm,aO n6b.symm]; exact mb) (WE ca)
end
end Go.Rip
