/- Lemmas for the proof: no conditions. -/
import Derived.Test.YtnfpmiiopiinbaaGreatDoorRipZz
import Derived.Test.YtnfpmiiopiinbaaGreatDoorRipQ
import Derived.Test.YtnfpmiiopiinbaaGreatDoorRipF
import Derived.Test.YtnfpmiiopiinbaaGreatDoorRipYa
import Derived.Test.YtnfpmiiopiinbaaGreatDoorRipS
import Derived.Test.YtnfpmiiopiinbaaGreatDoorRipG
set_option linter.unusedVariables false
set_option linter.unusedSimpArgs false
set_option linter.loopingSimpArgs false
namespace Go.Rip
open Go.Proofs Go.RowKit
theorem AJ:∀ l:List Nd,bY (cH l)=true:=fun l=>by
 induction l with
 | nil=>rfl
 | cons x l ih=>show bY (cG x++cH l)=true; simp [cG,bY,closed,ih]
theorem Ht (l:List Nd):closed (z8 l)=true:=by
 unfold z8; split
 . rfl
 . exact AJ l
theorem HX (n:Nat) (U:St) (l:List Nd):(cH l).map (resolve (n+1) U)=cH l:=by
 induction l with
 | nil=>rfl
 | cons x l ih =>
   show ((cG x++cH l).map (resolve (n+1) U))=cG x++cH l
   rw [List.map_append,ih]; rfl
end Go.Rip
namespace Go.Rip
open Go.Proofs Go.RowKit
structure Sl (v:AV) (l:List Nd):Prop where
 s:dA v l.length (cH l)
 c:closed v=true
theorem IT (l:List Nd):Sl (z8 l) l:=by
 refine ⟨?_,Ht l⟩
 unfold z8
 split
 . rename_i h; subst h; exact .inl ⟨rfl,rfl,rfl⟩
 . exact .inr ⟨_,rfl⟩
theorem Sl.fh {v:AV} {l:List Nd} (h:Sl v l) (U:St):lC U v l:=h.s.Rc
theorem Sl.cl {v:AV} {l:List Nd} (h:Sl v l):closed (.agg [v])=true:=by simp [closed,bY,h.c]
theorem fV {b o k:Nat} {U:St} {K':AV->St->Prop} {Kp:AV->St->Prop} (h:K' (.box b (o+k)) U):(af (some k) (.box b o)).wp K U K' Kp:=h
theorem j6 {b:Nat} {v:AV} {U τ:St} {K':AV->St->Prop} {Kp:AV->St->Prop} (hb:U.box b=some [v]) (h:K' (.agg [v]) τ):(ah (some (true,1)) (.box b 0) U).wp K τ K' Kp:=by
 rw [pQ hb]; exact ⟨by simp,h⟩
def qv (l:List Nd):Bool:=decide (l.length <= 1000) && l.all fun x=>decide (x.text.length <= 100)
theorem yp {l:List Nd}:qv l=true ↔ l.length <= 1000/\∀ x ∈ l,x.text.length <= 100:=by simp [qv]
theorem CN {v:AV} {l:List Nd} (hv:dA v l.length (cH l)):Pure K 49 [v] (.bool (qv l)):=by
 intro U R hR
 refine RQ ?_
 unfold TJ
 rw [hv.len,al]
 refine P7 (fI (fun h=>?_) fun h=>?_)
 . refine ak.eq hR ?_
   have:qv l=false:=by unfold qv; rw [decide_eq_false (by omega)]; rfl
   rw [this]
 refine ⟨fun m v0 v3 ad=>∃ i:Nat,m=l.length - i/\i <= l.length/\v0=v/\v3=.int .i64 (i:Nat)/\ad=U/\∀ j x,j < i->l[j]?=some x->x.text.length <= 100,⟨_,0,rfl,by omega,rfl,rfl,rfl,fun j x h=>by omega⟩,?_⟩
 rintro m v0 v3 ad ⟨i,rfl,hi,rfl,rfl,rfl,bO⟩
 have hlen:cj (some false) v0=.val (.int .i64 l.length):=hv.len
 rw [hlen,al,bP,al]
 refine fI (fun aO=>?_) fun jo=>?_
 . have aO:i < l.length:=by omega
   obtain ⟨x,hx⟩:∃ x,l[i]?=some x:=⟨l[i],by simp [aO]⟩
   refine Lh hv.Rc hx (show (cG x)[1]?=some (.str x.text) from rfl) ?_
   show ((aD.val (.int .i64 x.text.length)).wp K _ _ _)
   rw [al]
   refine P7 (fI (fun h=>?_) fun h=>?_)
   . refine ak.eq hR ?_
     have:qv l=false:=by
      cases ht:qv l with
      | false=>rfl
      | true=>have:=(yp.1 ht).2 x (fj hx); omega
     rw [this]
   . rw [dr]
     refine ⟨bw (by omega) (by omega),l.length - (i+1),by omega,i+1,rfl,by omega,rfl,by simp,rfl,fun j y hj hy=>?_⟩
     by_cases uJ:j=i
     . subst uJ; rw [hx] at hy; cases hy; omega
     . exact bO j y (by omega) hy
 . refine ak.eq hR ?_
   have:qv l=true:=yp.2 ⟨by omega,fun x hx=>by
    obtain ⟨j,hj,rfl⟩:=List.getElem_of_mem hx
    exact bO j _ (by omega) (by simp [hj])⟩
   rw [this]
theorem PU {v:AV} {l:List Nd} (hv:Sl v l):Pure K 24 [.agg [v]] (.bool (qv l)):=by
 refine Pure.of (by simp [bY,hv.cl]) rfl (fun U=>rfl) fun R hR=>?_
 refine RH ?_
 unfold TA
 rw [er rfl]
 intro b1 fX
 have m1:((bC ⟨.e,0⟩).new b1 (.box (au (.agg [v])))).box b1=some [v]:=aK
 generalize (bC _).new b1 _=ao at *
 refine fV (dq m1 rfl ((CN hv.s).go ?_))
 exact ak.mk (hR _)
theorem Z8 {mu:Bool} {e sz m:Nat} {y:AV} {l2:List AV} {U:St} {K':AV->St->Prop} {Kp:AV->St->Prop} (hy:pO U y=some (m,l2)) (hl:l2.length=m * sz) (hb:m <= 4294967296)
 (h0:m=0->K' .aw U) (h1:m ≠ 0->mu=true->∀ b,U.cY b->K' (.ms b 0 m sz e) (U.new b (.box l2))) (h2:m ≠ 0->mu=false->∀ b,U.cY b->K' (.vec m (.own b) l2) (U.new b (.tok ⟨m,e,sz⟩))):(ez (some (e,sz)) mu .aw y U).wp K U K' Kp:=by
 simp only [ez,hy,wp_cond]
 refine ⟨hl,?_⟩
 by_cases hm:m=0
 . rw [if_pos hm,al]; exact h0 hm
 . rw [if_neg hm,wp_cond]
   refine ⟨hb,?_⟩
   cases mu with
   | true=>exact fun b eH=>h1 hm rfl b eH
   | false=>exact fun b eH=>h2 hm rfl b eH
theorem HW {n b k z e:Nat} {U:St} {L:List AV} (h:U.box b=some L):resolve (n+1) U (.ms b 0 k z e)=.vec k .jD (L.map (resolve n U)):=by
 rw [resolve,h]; rfl
theorem HV {n b:Nat} {U:St} {l:List Nd} (h:U.box b=some (cH l)) (h0:l ≠ []):resolve (n+2) U (.ms b 0 l.length 6 43)=z8 l:=by
 rw [HW h,HX,z8,if_neg h0]
theorem LG {v:AV} {l:List Nd} (hv:Sl v l) (hl:l.length <= 100000):Pure K 26 [.agg [v]] (.agg [z8 l]):=by
 refine Pure.YQ (by simp [bY,hv.cl]) (IT l).cl fun R hR=>?_
 refine RJ ?_
 unfold TC
 rw [er rfl]
 intro b1 fX
 have m1:((bC ⟨.e,0⟩).new b1 (.box (au (.agg [v])))).box b1=some [v]:=aK
 generalize (bC _).new b1 _=ao at *
 rw [cS]
 intro b2 fY
 have m2:(ao.new b2 (.box [AV.aw])).box b2=some [.aw]:=aK
 have m1:=(a7 fY (x:=.box [AV.aw])).aS m1
 generalize ao.new b2 (.box [AV.aw])=aP at *
 refine fV (dq m1 rfl ?_)
 refine Z8 (hv.fh _).src (tX l ▸ by omega) (by omega) (fun h0=>?_) (fun h1 _ b hb=>?_) (fun _ h=>by cases h)
 . have:l=[]:=qS.1 h0
   subst this
   refine qA [.aw] rfl ?_
   rw [cX m2]
   refine ⟨⟨rfl,rfl,by simp⟩,?_⟩
   rw [BB aW]
   exact ⟨by simp [aB],ak.mk (hR _ _ rfl)⟩
 . have bT:=hb.bK m2
   refine qA [.ms b 0 l.length 6 43] rfl ?_
   rw [cX (show (aP.new b (.box (cH l))).box b2=some _ by rw [pj bT]; exact m2)]
   refine ⟨⟨rfl,rfl,by simp⟩,?_⟩
   rw [BB aW]
   refine ⟨by simp [aB],ak.mk (hR _ _ ?_)⟩
   have wJ:((aP.new b (.box (cH l))).set b2 (.box (aB [AV.aw] 0 (au (.agg [.ms b 0 l.length 6 43]))))).box b=some (cH l):=by
    rw [aN bT.symm,aK]
   generalize (aP.new b (.box (cH l))).set b2 _=aZ at *
   show AV.agg [resolve 4 aZ (.ms b 0 l.length 6 43)]=_
   have:l ≠ []:=fun e=>h1 (by rw [e]; rfl)
   rw [HV wJ this]
noncomputable def gQ (l:List Nd) (p:Int):Int:=if gg l ≠ 0 then gg l else if p < 0\/(l.length:Int) <= p then 3 else 0
theorem xg {l:List Nd} {p:Int} (h:gQ l p=0):∃ (n:Nat) (t s:Tre),p=n/\l=t.flat/\t.kind=1/\t.ok=true/\n < l.length/\et l n s:=by
 unfold gQ at h
 split at h
 . rename_i hc; exact absurd h hc
 . rename_i hc
   split at h
   . cases h
   . rename_i hp
     have hc:gg l=0:=Classical.not_not.1 hc
     have h9:¬ 900 < l.length:=fun h=>by unfold gg at hc; rw [if_pos h] at hc; cases hc
     have:∃ t:Tre,l=t.flat/\t.kind=1/\t.ok=true:=Classical.not_not.1 fun h=>by rw [rv h9 h] at hc; cases hc
     obtain ⟨t,rfl,h1,h2⟩:=this
     obtain ⟨⟨s,_,hs,_⟩,_⟩:=place t (i:=p.toNat) (by omega)
     exact ⟨p.toNat,t,s,by omega,rfl,h1,h2,by omega,hs⟩
end Go.Rip
namespace Go.Rip
open Go.Proofs Go.RowKit
theorem Hs (ks:List Nat):bY (dF ks)=true:=by
 induction ks with
 | nil=>rfl
 | cons k ks ih=>show bY (.int .i64 (k:Nat)::dF ks)=true; simp [bY,closed,ih]
theorem GK (n:Nat) (U:St) (ks:List Nat):(dF ks).map (resolve (n+1) U)=dF ks:=by
 induction ks with
 | nil=>rfl
 | cons k ks ih=>show .int .i64 (k:Nat)::(dF ks).map (resolve (n+1) U)=_; rw [ih]; rfl
def rz (ks:List Nat):AV:=if ks=[] then .aw else .vec ks.length .jD (dF ks)
theorem Ff (ks:List Nat):closed (rz ks)=true:=by
 unfold rz; split
 . rfl
 . exact Hs ks
theorem Q8 (ks:List Nat):dA (rz ks) ks.length (dF ks):=by
 unfold rz; split
 . rename_i h; subst h; exact .inl ⟨rfl,rfl,rfl⟩
 . exact .inr ⟨_,rfl⟩
theorem eo.ints {ao U:St} {v:AV} {ks:List Nat} (h:eo ao U v 3 1 ks.length (dF ks)) (n:Nat) (τ:St):resolve (n+2) τ v=rz ks:=by
 unfold rz
 split
 . rename_i e; subst e; rw [h.z rfl]; rfl
 . rename_i e
   rcases h.g with ⟨h1,_,_⟩ | ⟨t,rfl,_,_⟩
   . exact absurd (qS.1 h1) e
   . show AV.vec ks.length .jD ((dF ks).map (resolve (n+1) τ))=_
     rw [GK]
def gT (l:List Nd) (p:Nat):List Nat:=ee l ((p:Int)+eW l p) l.length (p+1)
theorem tw {l:List Nd} {n:Nat} {x:Nd} (h:l[n]?=some x):eW l n=x.size.toNat:=by unfold eW; rw [h]; rfl
theorem DF {l:List Nd} {n:Nat} {s:Tre} (h:et l n s):gT l n=cE (n+1) s.kids:=by
 obtain ⟨x,hx,_,hs,_⟩:=h.mV
 unfold gT
 rw [tw hx,show (x.size.toNat:Int)=s.flat.length by omega]
 exact sk h
noncomputable def s9 (l:List Nd) (p:Int):List Nat:=if gQ l p=0 then gT l p.toNat else []
def upF (l:List Nd) (p:Nat):Nat->Nat
 | 0=>0
 | i+1=>if i+1+eW l (i+1) <= p then upF l p i else i+1
theorem vw {t:Tre}:AA t.flat:=((DY t.flat).2 ⟨t,rfl⟩).1
end Go.Rip
namespace Go.Rip
open Go.Proofs Go.RowKit
theorem Ax {a b n:Int} {U:St} {K':AV->St->Prop} {Kp:AV->St->Prop} (h:K' (.bool (decide (a <= n/\n <= b))) U):ae K 122 [.int .i64 a,.int .i64 b,.int .i64 n] U (ag K' Kp):=(oC a b n).go h
theorem mU {l:List Nd} {p:Int} (h:gg l ≠ 0):gQ l p=gg l:=by unfold gQ; rw [if_pos h]
theorem zS {l:List Nd} {p:Int} (h:gg l=0) (hp:¬ (0 <= p/\p <= (l.length:Int) - 1)):gQ l p=3:=by unfold gQ; rw [if_neg (by simp [h]),if_pos (by omega)]
theorem ur {l:List Nd} {p:Int} (h:gg l=0) (hp:0 <= p/\p <= (l.length:Int) - 1):gQ l p=0:=by unfold gQ; rw [if_neg (by simp [h]),if_neg (by omega)]
def Ej (R:cA->St->Prop) (z:AV):cA->St->Prop:=fun r U=>∃ x e,r=.ret (.aF [x,.int .i64 e])/\(e ≠ 0->R (.ret (.aF [z,.int .i64 e])) U)/\(e=0->R (.ret (.aF [x,.int .i64 0])) U)
section
variable {U:St} {R:cA->St->Prop} {v:AV} {l:List Nd} {p:Int} {g:FuncId} {fs cs:List AV}
theorem Hi (hg:dU K.P g=true) {a:List AV} {K':AV->St->Prop} {Kp:AV->St->Prop}:(gr K.P (.func (.func g) fs cs) a).wp K U K' Kp=ae K g (fs++a++cs) U (ag K' Kp):=by
 simp only [gr,hg,if_true,jW]
theorem Ci {z:AV} {ad:St} {a:List AV} (h:ae K g a ad (Ej R z)) :
 ae K g a ad (ag (fun dE U=>(aR dE 0).wp K U (fun v30 U=>(aR dE 1).wp K U (fun v31 U=>(ar .neq (BT.mk false false false none false) true v31 (AV.int .i64 0)).wp K U (fun eR U =>
  av eR (ak R (AV.aF [z,v31]) U) (ak R (AV.aF [v30,(AV.int .i64 0)]) U)) (aa R)) (aa R)) (aa R)) (aa R)):=by
 refine h.mono fun r τ hr=>?_
 obtain ⟨x,e,rfl,h1,h2⟩:=hr
 simp only [bu,bB,List.drop,bE,c6,al]
 by_cases he:e=0
 . simp only [he,da,cI]
   exact cO (ak.mk (h2 he))
 . simp only [he,dN,eA]
   exact df (ak.mk (h1 he))
theorem ZE (hv:Sl v l) (hl:l.length <= 10000) (iX:∀ x ∈ l,x.text.length <= 3000) (hg:dU K.P g=true)
 (h0:gQ l p ≠ 0->∀ ad,cN U ad->R (.ret (.aF [.aw,.int .i64 (gQ l p)])) ad)
 (h1:gQ l p=0->∀ ad,cN U ad->ae K g (fs++[.agg [v]]++cs) ad (Ej R .aw)):ae K 78 [.agg [v],.int .i64 p,.func (.func g) fs cs] U R:=by
 refine R0 ?_
 unfold TT
 rw [er rfl]
 intro b1 fX
 have m1:(U.new b1 (.box (au (.agg [v])))).box b1=some [v]:=aK
 have e1:=a7 fX (x:=.box (au (.agg [v])))
 generalize U.new b1 _=aP at *
 refine j6 m1 ((ru hv.s hv.c hl iX).go ?_)
 rw [c6,al]
 by_cases hc:gg l=0
 rotate_left
 . simp only [hc,dN,eA]
   refine df (ak.mk ?_)
   rw [<- mU (p:=p) hc]
   exact h0 (by rw [mU hc]; exact hc) _ e1
 simp only [hc,da,cI]
 refine cO (fV (dq m1 rfl ?_))
 rw [hv.s.len,al,iy,fl,wp_cond,al]
 refine ⟨bw (by omega) (by omega),Ax ?_⟩
 simp only [dR,al]
 by_cases hp:0 <= p/\p <= (l.length:Int) - 1
 rotate_left
 . simp only [hp,dN,eA]
   refine df (ak.mk ?_)
   have:=zS hc hp
   rw [<- this]
   exact h0 (by rw [this]; decide) _ e1
 simp only [hp,and_self,da,cI]
 refine cO (j6 m1 (qA [v] rfl ?_))
 rw [Hi hg]
 exact Ci (h1 (ur hc hp) _ e1)
theorem ZF (hv:Sl v l) (hl:l.length <= 10000) (iX:∀ x ∈ l,x.text.length <= 3000) (hg:dU K.P g=true)
 (h0:gQ l p ≠ 0->∀ ad,cN U ad->R (.ret (.aF [.int .i64 0,.int .i64 (gQ l p)])) ad)
 (h1:gQ l p=0->∀ ad,cN U ad->ae K g (fs++[.agg [v]]++cs) ad (Ej R (.int .i64 0))):ae K 82 [.agg [v],.int .i64 p,.func (.func g) fs cs] U R:=by
 refine R4 ?_
 unfold TX
 rw [er rfl]
 intro b1 fX
 have m1:(U.new b1 (.box (au (.agg [v])))).box b1=some [v]:=aK
 have e1:=a7 fX (x:=.box (au (.agg [v])))
 generalize U.new b1 _=aP at *
 refine j6 m1 ((ru hv.s hv.c hl iX).go ?_)
 rw [c6,al]
 by_cases hc:gg l=0
 rotate_left
 . simp only [hc,dN,eA]
   refine df (ak.mk ?_)
   rw [<- mU (p:=p) hc]
   exact h0 (by rw [mU hc]; exact hc) _ e1
 simp only [hc,da,cI]
 refine cO (fV (dq m1 rfl ?_))
 rw [hv.s.len,al,iy,fl,wp_cond,al]
 refine ⟨bw (by omega) (by omega),Ax ?_⟩
 simp only [dR,al]
 by_cases hp:0 <= p/\p <= (l.length:Int) - 1
 rotate_left
 . simp only [hp,dN,eA]
   refine df (ak.mk ?_)
   have:=zS hc hp
   rw [<- this]
   exact h0 (by rw [this]; decide) _ e1
 simp only [hp,and_self,da,cI]
 refine cO (j6 m1 (qA [v] rfl ?_))
 rw [Hi hg]
 exact Ci (h1 (ur hc hp) _ e1)
end
theorem Jw {v:AV} {l:List Nd} {n:Nat} {en:Int} {bn be bt:Nat} {U:St} {R:cA->St->Prop} (hv:dA v l.length (cH l)) (hn:n < l.length) (hl:l.length <= 10000) (FC:en <= l.length) (dQ:∀ (i:Nat) (x:Nd),l[i]?=some x->x.size <= 100000)
 (mn:U.box bn=some [.int .i64 (n:Nat)]) (me:U.box be=some [.int .i64 en]) (mt:U.box bt=some [v])
 (h:∀ ad v',eo (bC ⟨.e,0⟩) ad v' 3 1 (ee l en l.length (n+1)).length (dF (ee l en l.length (n+1)))->R (.ret v') ad):ae K 80 [.func (.func 155) [] [.box bn 0,.box be 0,.box bt 0]] U R:=by
 refine R2 ?_
 unfold TV
 refine Om ?_
 unfold Ol
 rw [er rfl]
 intro b2 fY
 have m2:(U.new b2 (.box (au .aw))).box b2=some [.aw]:=aK
 have IA:=fY.bK mn
 have heb:=fY.bK me
 have htb:=fY.bK mt
 have mn:=(a7 fY (x:=.box (au .aw))).aS mn
 have me:=(a7 fY (x:=.box (au .aw))).aS me
 have mt:=(a7 fY (x:=.box (au .aw))).aS mt
 generalize U.new b2 (.box (au .aw))=aP at *
 refine rF (fun ks ad=>(ad.box bn=some [.int .i64 (n:Nat)]/\ad.box be=some [.int .i64 en]/\ad.box bt=some [v])/\∃ vk,ad.box b2=some [vk]/\eo (bC ⟨.e,0⟩) ad vk 3 1 ks.length (dF ks)) (fun _=>False) hv hn (by omega) FC
  (fun ks ad hI=>hI.1) (fun ks ad o L L' hI ho=>?_) (fun ks ad o L hI ho=>?_) (fun ad o L L' hJ ho=>hJ) (fun ks fh y ad o L1 q hI hy aO pw Mw qD nU hL Bb FY=>?_) (fun ks ad o L gh hI hL=>?_) (fun ad o L hJ hL=>hJ.elim) ⟨⟨mn,me,mt⟩,_,m2,eo.nil (pq _)⟩
 . obtain ⟨⟨h1,h2,h3⟩,vk,cF,nM⟩:=hI
   exact ⟨⟨by rw [aN (aX h1 ho)]; exact h1,by rw [aN (aX h2 ho)]; exact h2,by rw [aN (aX h3 ho)]; exact h3⟩,vk,by rw [aN (aX cF ho)]; exact cF,nM.loop ho (pq _)⟩
 . obtain ⟨⟨h1,h2,h3⟩,vk,cF,nM⟩:=hI
   have e:=a7 ho (x:=.loop L)
   exact ⟨⟨e.aS h1,e.aS h2,e.aS h3⟩,vk,e.aS cF,nM.mono e⟩
 . obtain ⟨⟨h1,h2,h3⟩,vk,cF,nM⟩:=hI
   refine dq cF rfl ?_
   refine EG rfl rfl ?_
   refine BZ nM (m:=1) (l2:=[.int .i64 (fh:Nat)]) rfl rfl (by omega) (by omega) fun aZ v' g2 k2=>?_
   have kQ:∀ b z,ad.box b=some z->aZ.box b=some z:=fun b z hb=>by
    cases sX:ad.live b with
    | none=>exact absurd sX (bG hb)
    | some w =>
      have:=k2 b w (fun n' l' s0=>by
       rcases nM.g with ⟨_,_,h3⟩ | ⟨τ,r1,r2,_⟩
       . rw [h3] at s0; cases s0
       . rw [r1] at s0; cases s0; exact dL hb r2 rfl) sX
      rw [dP (this.trans sX.symm)]; exact hb
   have pz:=kQ _ _ cF
   have lf:v'.cQ=true/\au v'=[v']:=by
    rcases g2.g with ⟨h0,_,_⟩ | ⟨τ,r1,_,_⟩
    . omega
    . rw [r1]; exact ⟨rfl,rfl⟩
   rw [cX pz]
   refine ⟨⟨lf.1,by rw [lf.2]; rfl,by simp⟩,?_⟩
   refine Bb _ ⟨⟨?_,?_,?_⟩,v',?_,?_⟩ (dQ _ _ hy) ?_
   . rw [aN IA]; exact kQ _ _ h1
   . rw [aN heb]; exact kQ _ _ h2
   . rw [aN htb]; exact kQ _ _ h3
   . rw [aW,lf.2]; rfl
   . have:eo (bC ⟨.e,0⟩) (aZ.set b2 (.box (aB [vk] 0 (au v')))) v' 3 1 (ks.length+1) (dF ks++[.int .i64 (fh:Nat)]):=by
      refine ⟨?_,g2.z,g2.t,pq _⟩
      rcases g2.g with g | ⟨τ,r1,r2,r3⟩
      . exact .inl g
      . exact .inr ⟨τ,r1,by rw [fx (dL pz r2).symm]; exact r2,r3⟩
     simpa [dF] using this
   . obtain ⟨_,kl⟩:=lA nM.g k2
     rw [dG]; exact kl hL
     rw [cR,if_neg (aX pz (kl hL)).symm]
 . obtain ⟨⟨h1,h2,h3⟩,vk,cF,nM⟩:=hI
   have pz:(ad.del o).box b2=some [vk]:=by rw [eM (aX cF hL)]; exact cF
   refine dq pz rfl (ak.mk ?_)
   refine ak.mk (h _ _ ?_)
   rw [<- gh]
   refine ⟨?_,nM.z,nM.t,pq _⟩
   rcases nM.g with g | ⟨τ,r1,r2,r3⟩
   . exact .inl g
   . exact .inr ⟨τ,r1,by rw [KZ (oz r2 hL)]; exact r2,r3⟩
end Go.Rip
namespace Go.Rip
open Go.Proofs Go.RowKit
section
variable {v:AV} {l:List Nd}
theorem MR (hv:Sl v l) (hl:l.length <= 10000) (iX:∀ x ∈ l,x.text.length <= 3000) (p:Int):Pure K 35 [.agg [v],.int .i64 p] (.aF [rz (s9 l p),.int .i64 (gQ l p)]):=by
 refine Pure.YQ (by simp [bY,hv.cl,show closed (.int .i64 p)=true from rfl]) (by simp [closed,bY,Ff]) fun R hR=>?_
 refine RO ?_
 unfold TG
 rw [er rfl]
 intro b1 fX
 have m1:((bC ⟨.e,0⟩).new b1 (.box (au (.agg [v])))).box b1=some [v]:=aK
 generalize (bC _).new b1 _=ao at *
 rw [er rfl]
 intro b2 fY
 have m2:(ao.new b2 (.box (au (.int .i64 p)))).box b2=some [.int .i64 p]:=aK
 have m1:=(a7 fY (x:=.box (au (.int .i64 p)))).aS m1
 generalize ao.new b2 _=aP at *
 refine j6 m1 (dq m2 rfl ?_)
 have fin:∀ (x:AV) (e:Int) (ad:St),(∀ τ,resolve 4 τ x=rz (s9 l p))->e=gQ l p->ag (fun v9 U=>(aR v9 0).wp K U (fun v10 U=>(aR v9 1).wp K U (fun v11 U=>ak R (AV.aF [v10,v11]) U) (aa R)) (aa R)) (aa R) (.ret (.aF [x,.int .i64 e])) ad:=by
  intro x e ad hx he
  simp only [bu,bB,List.drop,bE]
  refine ak.mk (hR _ _ ?_)
  subst he
  show AV.aF [resolve 4 ad x,_]=_
  rw [hx]; rfl
 refine ZE (fs:=[]) (cs:=[.box b2 0]) hv hl iX (by kernel_rfl) (fun ha aZ e2=>?_) (fun ha aZ e2=>?_)
 . refine fin _ _ _ (fun τ=>?_) rfl
   have:s9 l p=[]:=by unfold s9; rw [if_neg ha]
   rw [this]; rfl
 have m2:=e2.aS m2
 show ae K 79 [.agg [v],.box b2 0] aZ _
 refine R1 ?_
 unfold TU
 rw [er rfl]
 intro b3 jn
 have m3:(aZ.new b3 (.box (au (.agg [v])))).box b3=some [v]:=aK
 have m2:=(a7 jn (x:=.box (au (.agg [v])))).aS m2
 generalize aZ.new b3 _=bZ at *
 refine j6 m3 (dq m2 rfl ?_)
 obtain ⟨n,t,s,rfl,rfl,h1,h2,h3,hs⟩:=xg ha
 obtain ⟨x,hx,_,Td,_⟩:=hs.mV
 have hle:=hs.le
 refine p8 hv.s hx (bw (by omega) (by omega)) fun bn be bt cC d1 d2 d3 f1 f2 f3 q1 q2 q3 e4=>?_
 rw [bu]
 refine Jw hv.s h3 hl (by omega) (fun i y hy=>by have:=vw.2.2 i y hy; omega) q1 q2 q3 fun dm v5 g5=>?_
 rw [bu]
 have hk:s9 t.flat n=ee t.flat ((n:Int)+x.size) t.flat.length (n+1):=by
  unfold s9 gT; rw [if_pos ha,gb,tw hx,show (x.size.toNat:Int)=x.size by omega]
 rw [<- hk] at g5
 refine ak.mk ⟨v5,0,rfl,fun h=>absurd rfl h,fun _=>fin _ _ _ (fun τ=>g5.ints _ _) ha.symm⟩
end
end Go.Rip
namespace Go.Rip
open Go.Proofs Go.RowKit
theorem Grow.gO {r:Nat} {U ad:St} {v:AV} {e sz n:Nat} {l L L':List AV} (h:Grow U v e sz n l) (hr:U.box r=some L) (A:fH r L' U ad):Grow ad v e sz n l:=by
 rcases h with h | ⟨τ,r1,r2,r3⟩
 . exact .inl h
 . exact .inr ⟨τ,r1,A.ex.tok (dL hr r2).symm r2,r3⟩
theorem Grow.other {U ad:St} {v w:AV} {e sz n e2 ZB n2:Nat} {l l2:List AV} (h:Grow U v e sz n l) (bT:e ≠ e2) (k:Grow U w e2 ZB n2 l2) (e1:∀ b x,(∀ n l,w ≠ .vec n (.own b) l)->U.live b=some x->ad.live b=some x):Grow ad v e sz n l:=by
 rcases h with h | ⟨τ,r1,r2,r3⟩
 . exact .inl h
 . refine .inr ⟨τ,r1,?_,r3⟩
   cases el:U.live τ with
   | none=>exact absurd el (PX r2)
   | some x =>
     have:=e1 τ x (fun n' l' hv=>by
      rcases k with ⟨_,_,k⟩ | ⟨sN,k,k2,_⟩
      . rw [k] at hv; cases hv
      . rw [k] at hv; cases hv
        rw [r2] at k2; cases k2; exact bT rfl) el
     rw [jB (this.trans el.symm)]; exact r2
end Go.Rip
