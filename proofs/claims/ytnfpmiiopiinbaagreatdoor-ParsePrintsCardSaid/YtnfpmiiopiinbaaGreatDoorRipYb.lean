/- Lemmas for the proof: no conditions. -/
import Derived.Test.YtnfpmiiopiinbaaGreatDoorRipZz
import Derived.Test.YtnfpmiiopiinbaaGreatDoorRipQ
import Derived.Test.YtnfpmiiopiinbaaGreatDoorRipF
import Derived.Test.YtnfpmiiopiinbaaGreatDoorRipYa
import Derived.Test.YtnfpmiiopiinbaaGreatDoorRipS
import Derived.Test.YtnfpmiiopiinbaaGreatDoorRipG
set_option linter.unusedVariables false
set_option linter.unusedSimpArgs false
set_option linter.loopingSimpArgs false
namespace Go.Rip
open Go.Proofs Go.RowKit
theorem Cf:∀ l:List Nd,cK (c8 l)=true:=fun l=>by
 induction l with
 | nil=>rfl
 | cons x l ih=>show cK (cM x++c8 l)=true; simp [cM,cK,closed,ih]
theorem IZ (l:List Nd):closed (BA l)=true:=by
 unfold BA; split
 . rfl
 . exact Cf l
theorem JD (n:Nat) (U:St) (l:List Nd):(c8 l).map (resolve (n+1) U)=c8 l:=by
 induction l with
 | nil=>rfl
 | cons x l ih =>
   show ((cM x++c8 l).map (resolve (n+1) U))=cM x++c8 l
   rw [List.map_append,ih]; rfl
end Go.Rip
namespace Go.Rip
open Go.Proofs Go.RowKit
structure Sl (v:AV) (l:List Nd):Prop where
 s:cB v l.length (c8 l)
 c:closed v=true
theorem Ky (l:List Nd):Sl (BA l) l:=by
 refine ⟨?_,IZ l⟩
 unfold BA
 split
 . rename_i h; subst h; exact .inl ⟨rfl,rfl,rfl⟩
 . exact .inr ⟨_,rfl⟩
theorem Sl.fI {v:AV} {l:List Nd} (h:Sl v l) (U:St):kn U v l:=h.s.zj
theorem Sl.cl {v:AV} {l:List Nd} (h:Sl v l):closed (.agg [v])=true:=by simp [closed,cK,h.c]
theorem fe {b o k:Nat} {U:St} {K':AV->St->Prop} {Kp:AV->St->Prop} (h:K' (.box b (o+k)) U):(ae (some k) (.box b o)).wp K U K' Kp:=h
theorem mX {b:Nat} {v:AV} {U τ:St} {K':AV->St->Prop} {Kp:AV->St->Prop} (hb:U.box b=some [v]) (h:K' (.agg [v]) τ):(ah (some (true,1)) (.box b 0) U).wp K τ K' Kp:=by
 rw [pA hb]; exact ⟨by simp,h⟩
def rA (l:List Nd):Bool:=decide (l.length <= 1000) && l.all fun x=>decide (x.text.length <= 100)
theorem zT {l:List Nd}:rA l=true ↔ l.length <= 1000/\∀ x ∈ l,x.text.length <= 100:=by simp [rA]
theorem D6 {v:AV} {l:List Nd} (hv:cB v l.length (c8 l)):Pure K 49 [v] (.bool (rA l)):=by
 intro U R hR
 refine Tz ?_
 unfold Vt
 rw [hv.len,al]
 refine wA (cu (fun h=>?_) fun h=>?_)
 . refine aj.eq hR ?_
   have:rA l=false:=by unfold rA; rw [decide_eq_false (by omega)]; rfl
   rw [this]
 refine ⟨fun m v0 v3 af=>∃ i:Nat,m=l.length - i/\i <= l.length/\v0=v/\v3=.int .i64 (i:Nat)/\af=U/\∀ j x,j < i->l[j]?=some x->x.text.length <= 100,⟨_,0,rfl,by omega,rfl,rfl,rfl,fun j x h=>by omega⟩,?_⟩
 rintro m v0 v3 af ⟨i,rfl,hi,rfl,rfl,rfl,bA⟩
 have hlen:br (some false) v0=.val (.int .i64 l.length):=hv.len
 rw [hlen,al,a7,al]
 refine cu (fun aM=>?_) fun gq=>?_
 . have aM:i < l.length:=by omega
   obtain ⟨x,hx⟩:∃ x,l[i]?=some x:=⟨l[i],by simp [aM]⟩
   refine sw hv.zj hx (show (cM x)[1]?=some (.str x.text) from rfl) ?_
   show ((ay.val (.int .i64 x.text.length)).wp K _ _ _)
   rw [al]
   refine wA (cu (fun h=>?_) fun h=>?_)
   . refine aj.eq hR ?_
     have:rA l=false:=by
      cases ht:rA l with
      | false=>rfl
      | true=>have:=(zT.1 ht).2 x (fl hx); omega
     rw [this]
   . rw [cr]
     refine ⟨aW (by omega) (by omega),l.length - (i+1),by omega,i+1,rfl,by omega,rfl,by simp,rfl,fun j y hj hy=>?_⟩
     by_cases sF:j=i
     . subst sF; rw [hx] at hy; cases hy; omega
     . exact bA j y (by omega) hy
 . refine aj.eq hR ?_
   have:rA l=true:=zT.2 ⟨by omega,fun x hx=>by
    obtain ⟨j,hj,rfl⟩:=List.getElem_of_mem hx
    exact bA j _ (by omega) (by simp [hj])⟩
   rw [this]
theorem RP {v:AV} {l:List Nd} (hv:Sl v l):Pure K 24 [.agg [v]] (.bool (rA l)):=by
 refine Pure.of (by simp [cK,hv.cl]) rfl (fun U=>rfl) fun R hR=>?_
 refine Tp ?_
 unfold Vk
 rw [fg rfl]
 intro b1 gl
 have m1:((bJ ⟨.e,0⟩).new b1 (.box (aC (.agg [v])))).box b1=some [v]:=aS
 generalize (bJ _).new b1 _=aw at *
 refine fe (dj m1 rfl ((D6 hv.s).go ?_))
 exact aj.mk (hR _)
theorem abj {mu:Bool} {e sz m:Nat} {y:AV} {l2:List AV} {U:St} {K':AV->St->Prop} {Kp:AV->St->Prop} (hy:pL U y=some (m,l2)) (hl:l2.length=m * sz) (hb:m <= 4294967296)
 (h0:m=0->K' .aA U) (h1:m ≠ 0->mu=true->∀ b,U.dw b->K' (.ms b 0 m sz e) (U.new b (.box l2))) (h2:m ≠ 0->mu=false->∀ b,U.dw b->K' (.vec m (.own b) l2) (U.new b (.tok ⟨m,e,sz⟩))):(eu (some (e,sz)) mu .aA y U).wp K U K' Kp:=by
 simp only [eu,hy,wp_cond]
 refine ⟨hl,?_⟩
 by_cases hm:m=0
 . rw [if_pos hm,al]; exact h0 hm
 . rw [if_neg hm,wp_cond]
   refine ⟨hb,?_⟩
   cases mu with
   | true=>exact fun b eT=>h1 hm rfl b eT
   | false=>exact fun b eT=>h2 hm rfl b eT
theorem JC {n b k z e:Nat} {U:St} {L:List AV} (h:U.box b=some L):resolve (n+1) U (.ms b 0 k z e)=.vec k .kV (L.map (resolve n U)):=by
 rw [resolve,h]; rfl
theorem JB {n b:Nat} {U:St} {l:List Nd} (h:U.box b=some (c8 l)) (h0:l ≠ []):resolve (n+2) U (.ms b 0 l.length 6 43)=BA l:=by
 rw [JC h,JD,BA,if_neg h0]
theorem M6 {v:AV} {l:List Nd} (hv:Sl v l) (hl:l.length <= 100000):Pure K 26 [.agg [v]] (.agg [BA l]):=by
 refine Pure.of' (by simp [cK,hv.cl]) (Ky l).cl fun R hR=>?_
 refine Tr ?_
 unfold Vm
 rw [fg rfl]
 intro b1 gl
 have m1:((bJ ⟨.e,0⟩).new b1 (.box (aC (.agg [v])))).box b1=some [v]:=aS
 generalize (bJ _).new b1 _=aw at *
 rw [df]
 intro b2 mD
 have m2:(aw.new b2 (.box [AV.aA])).box b2=some [.aA]:=aS
 have m1:=(bE mD (x:=.box [AV.aA])).bo m1
 generalize aw.new b2 (.box [AV.aA])=aQ at *
 refine fe (dj m1 rfl ?_)
 refine abj (hv.fI _).src (u6 l ▸ by omega) (by omega) (fun h0=>?_) (fun h1 _ b hb=>?_) (fun _ h=>by cases h)
 . have:l=[]:=tS.1 h0
   subst this
   refine rL [.aA] rfl ?_
   rw [dP m2]
   refine ⟨⟨rfl,rfl,by simp⟩,?_⟩
   rw [As bD]
   exact ⟨by simp [aK],aj.mk (hR _ _ rfl)⟩
 . have cV:=hb.cH m2
   refine rL [.ms b 0 l.length 6 43] rfl ?_
   rw [dP (show (aQ.new b (.box (c8 l))).box b2=some _ by rw [sO cV]; exact m2)]
   refine ⟨⟨rfl,rfl,by simp⟩,?_⟩
   rw [As bD]
   refine ⟨by simp [aK],aj.mk (hR _ _ ?_)⟩
   have oO:((aQ.new b (.box (c8 l))).set b2 (.box (aK [AV.aA] 0 (aC (.agg [.ms b 0 l.length 6 43]))))).box b=some (c8 l):=by
    rw [bf cV.symm,aS]
   generalize (aQ.new b (.box (c8 l))).set b2 _=bg at *
   show AV.agg [resolve 4 bg (.ms b 0 l.length 6 43)]=_
   have:l ≠ []:=fun e=>h1 (by rw [e]; rfl)
   rw [JB oO this]
noncomputable def jk (l:List Nd) (p:Int):Int:=if gY l ≠ 0 then gY l else if p < 0\/(l.length:Int) <= p then 3 else 0
theorem R8 {v:AV} {l:List Nd} (hv:Sl v l) (hl:l.length <= 10000) (jh:∀ x ∈ l,x.text.length <= 3000) (p:Int):Pure K 65 [.agg [v],.int .i64 p] (.int .i64 (jk l p)):=by
 refine Pure.of (by simp [cK,hv.cl,show closed (.int .i64 p)=true from rfl]) rfl (fun U=>rfl) fun R hR=>?_
 refine TD ?_
 unfold Vx
 rw [fg rfl]
 intro b1 gl
 have m1:((bJ ⟨.e,0⟩).new b1 (.box (aC (.agg [v])))).box b1=some [v]:=aS
 generalize (bJ _).new b1 _=aw at *
 refine mX m1 ?_
 refine JW (hv.fI _) (by omega) (fun x hx=>by have:=jh x hx; omega) fun aQ e1=>?_
 have m1:=e1.bo m1
 simp only [bL,cg,al]
 by_cases hc:gY l=0
 rotate_left
 . simp only [hc,cE,dx]
   refine ca (aj.mk ?_)
   have:jk l p=gY l:=by unfold jk; rw [if_pos hc]
   rw [<- this]; exact hR _
 simp only [hc,bZ,cn]
 refine bO ?_
 rw [a7,al]
 by_cases hp:p < 0
 . simp only [hp,bZ,aI,show (true == false)=false from rfl,aB,aZ,fZ,az,if_true,al]
   refine ca (aj.mk ?_)
   have:jk l p=3:=by unfold jk; rw [if_neg (by simp [hc]),if_pos (.inl hp)]
   rw [<- this]; exact hR _
 . simp only [hp,cE,aI,dN,aB,bq,ax]
   refine hU (dz m1 rfl ?_)
   rw [hv.s.len,ax,dT,ax]
   simp only [az,bC,if_false,al]
   refine cu (fun h=>aj.mk ?_) fun h=>aj.mk ?_
   . have:jk l p=3:=by unfold jk; rw [if_neg (by simp [hc]),if_pos (.inr h)]
     rw [<- this]; exact hR _
   . have:jk l p=0:=by unfold jk; rw [if_neg (by simp [hc]),if_neg (by omega)]
     rw [<- this]; exact hR _
theorem Ej {l:List Nd} {p:Int} (h:jk l p=0):∃ (n:Nat) (t s:Tre),p=n/\l=t.flat/\t.kind=1/\t.ok=true/\n < l.length/\cQ l n s:=by
 unfold jk at h
 split at h
 . rename_i hc; exact absurd h hc
 . rename_i hc
   split at h
   . cases h
   . rename_i hp
     have hc:gY l=0:=Classical.not_not.1 hc
     have h9:¬ 900 < l.length:=fun h=>by unfold gY at hc; rw [if_pos h] at hc; cases hc
     have:∃ t:Tre,l=t.flat/\t.kind=1/\t.ok=true:=Classical.not_not.1 fun h=>by rw [wI h9 h] at hc; cases hc
     obtain ⟨t,rfl,h1,h2⟩:=this
     obtain ⟨⟨s,_,hs,_⟩,_⟩:=place t (i:=p.toNat) (by omega)
     exact ⟨p.toNat,t,s,by omega,rfl,h1,h2,by omega,hs⟩
end Go.Rip
namespace Go.Rip
open Go.Proofs Go.RowKit
theorem RJ {l:List Nd} {n:Nat} {x:Nd} (h:l[n]?=some x):fV l n=x.size.toNat:=by unfold fV; rw [h]; rfl
def upF (l:List Nd) (p:Nat):Nat->Nat
 | 0=>0
 | i+1=>if i+1+fV l (i+1) <= p then upF l p i else i+1
theorem Lj {t:Tre}:yz t.flat:=((uL t.flat).2 ⟨t,rfl⟩).1
end Go.Rip
namespace Go.Rip
open Go.Proofs Go.RowKit
theorem Up {a b n:Int} {U:St} {K':AV->St->Prop} {Kp:AV->St->Prop} (h:K' (.bool (decide (a <= n/\n <= b))) U):ag K 122 [.int .i64 a,.int .i64 b,.int .i64 n] U (aq K' Kp):=(po a b n).go h
theorem th {l:List Nd} {p:Int} (h:gY l ≠ 0):jk l p=gY l:=by unfold jk; rw [if_pos h]
theorem R7 {l:List Nd} {p:Int} (h:gY l=0) (hp:¬ (0 <= p/\p <= (l.length:Int) - 1)):jk l p=3:=by unfold jk; rw [if_neg (by simp [h]),if_pos (by omega)]
theorem Wb {l:List Nd} {p:Int} (h:gY l=0) (hp:0 <= p/\p <= (l.length:Int) - 1):jk l p=0:=by unfold jk; rw [if_neg (by simp [h]),if_neg (by omega)]
def Us (R:cO->St->Prop) (z:AV):cO->St->Prop:=fun r U=>∃ x e,r=.ret (.aG [x,.int .i64 e])/\(e ≠ 0->R (.ret (.aG [z,.int .i64 e])) U)/\(e=0->R (.ret (.aG [x,.int .i64 0])) U)
section
variable {U:St} {R:cO->St->Prop} {v:AV} {l:List Nd} {p:Int} {g:FuncId} {fs cs:List AV}
theorem abq (hg:gj K.P g=true) {a:List AV} {K':AV->St->Prop} {Kp:AV->St->Prop}:(jW K.P (.func (.func g) fs cs) a).wp K U K' Kp=ag K g (fs++a++cs) U (aq K' Kp):=by
 simp only [jW,hg,if_true,kO]
theorem Wp {z:AV} {af:St} {a:List AV} (h:ag K g a af (Us R z)) :
 ag K g a af (aq (fun cJ U=>(aV cJ 0).wp K U (fun v30 U=>(aV cJ 1).wp K U (fun v31 U=>(ai .neq (BT.mk false false false none false) true v31 (AV.int .i64 0)).wp K U (fun dJ U =>
  ao dJ (aj R (AV.aG [z,v31]) U) (aj R (AV.aG [v30,(AV.int .i64 0)]) U)) (aa R)) (aa R)) (aa R)) (aa R)):=by
 refine h.mono fun r τ hr=>?_
 obtain ⟨x,e,rfl,h1,h2⟩:=hr
 simp only [bL,bH,List.drop,bN,cg,al]
 by_cases he:e=0
 . simp only [he,bZ,cn]
   exact bO (aj.mk (h2 he))
 . simp only [he,cE,dx]
   exact ca (aj.mk (h1 he))
end
end Go.Rip
namespace Go.Rip
open Go.Proofs Go.RowKit
theorem Grow.JR {r:Nat} {U af:St} {v:AV} {e sz n:Nat} {l L L':List AV} (h:Grow U v e sz n l) (hr:U.box r=some L) (A:uc r L' U af):Grow af v e sz n l:=by
 rcases h with h | ⟨τ,r1,r2,r3⟩
 . exact .inl h
 . exact .inr ⟨τ,r1,A.ex.tok (gg hr r2).symm r2,r3⟩
end Go.Rip
