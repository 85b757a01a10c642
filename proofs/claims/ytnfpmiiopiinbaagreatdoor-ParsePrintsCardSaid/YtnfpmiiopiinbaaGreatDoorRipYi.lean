/- Lemmas for the proof: no conditions. -/
import Derived.Test.YtnfpmiiopiinbaaGreatDoorRipZz
import Derived.Test.YtnfpmiiopiinbaaGreatDoorRipYh
import Derived.Test.YtnfpmiiopiinbaaGreatDoorRipYe
import Derived.Test.YtnfpmiiopiinbaaGreatDoorRipE
import Derived.Test.YtnfpmiiopiinbaaGreatDoorRipP
import Derived.Test.YtnfpmiiopiinbaaGreatDoorRipYb
import Derived.Test.YtnfpmiiopiinbaaGreatDoorRipF
import Derived.Test.YtnfpmiiopiinbaaGreatDoorRipX
import Derived.Test.YtnfpmiiopiinbaaGreatDoorRipI
import Derived.Test.YtnfpmiiopiinbaaGreatDoorRipAw
import Derived.Test.YtnfpmiiopiinbaaGreatDoorRipYc
set_option linter.unusedVariables false
set_option linter.unusedSimpArgs false
set_option linter.loopingSimpArgs false
namespace Go.Rip
open Go.Proofs Go.RowKit
theorem qZ {x:Tx} (h:l9 x):x.2.length <= 12:=by
 have key:∀ w ∈ iU++ef,w.length <= 12:=by decide
 rcases p5 h.2 with k | k | k | k
 . exact k.2.2.1
 . have:=OC h.1 (Is (by rw [h.2,k.1]) h.1); omega
 . exact key _ (List.mem_append_left _ k.2)
 . exact key _ (List.mem_append_right _ k.2)
def yG (s:aY):List AV:=s.map fun c=>.int .u8 c.toNat
def Fz (U af:St):Prop:=∀ c x,U.live c=some x->(∀ t,x=.tok t->t.e ≠ 51)->af.live c=some x
def Eh (b:Nat) (U af:St):Prop:=∀ c x,c ≠ b->U.live c=some x->(∀ t,x ≠ .tok t)->af.live c=some x
section
variable {b c:Nat} {U aw aQ af:St} {s t:aY} {R:cO->St->Prop}
theorem Fz.refl (U:St):Fz U U:=fun _ _ h _=>h
theorem Fz.trans (h:Fz U aQ) (k:Fz aQ af):Fz U af:=fun c x e t=>k c x (h c x e t) t
theorem Fz.tM (h:dD U af):Fz U af:=fun c x e _=>h c x e
theorem Fz.fr (h:Fz U af):Eh b U af:=fun c x _ e t=>h c x e fun t' e'=>absurd e' (t t')
theorem Eh.bo (h:Eh b U af) (n:c ≠ b) {y:List AV} (k:U.box c=some y):af.box c=some y:=by
 cases e:U.live c with
 | none=>simp [St.box,e] at k
 | some x =>
   rw [fE ((h c x n e ?_).trans e.symm)]; exact k
   intro t ht
   subst ht
   simp [St.box,e] at k
theorem Eh.loop (h:Eh b U af) (n:c ≠ b) {L:fp} (k:U.loop c=some L):af.loop c=some L:=by
 cases e:U.live c with
 | none=>simp [St.loop,e] at k
 | some x =>
   rw [fT ((h c x n e ?_).trans e.symm)]; exact k
   intro t ht
   subst ht
   simp [St.loop,e] at k
theorem Fz.bo (h:Fz U af) {y:List AV} (k:U.box c=some y):af.box c=some y:=(h.fr (b:=c+1)).bo (by omega) k
theorem Fz.loop (h:Fz U af) {L:fp} (k:U.loop c=some L):af.loop c=some L:=(h.fr (b:=c+1)).loop (by omega) k
theorem Fz.tok (h:Fz U af) {t:Tok} (ht:t.e ≠ 51) (k:U.tok c=some t):af.tok c=some t:=by
 cases e:U.live c with
 | none=>simp [St.tok,e] at k
 | some x =>
   rw [kg ((h c x e ?_).trans e.symm)]; exact k
   intro t' nQ
   subst nQ
   simp [St.tok,e] at k
   subst k
   exact ht
def NK (aw:St) (c:Nat):Prop:=∀ x,aw.live c=some x->∃ t,x=.tok t/\t.e=51
theorem NK.of (h:aw.live c=none):NK aw c:=fun x e=>by rw [h] at e; cases e
theorem Fz.nk (h:Fz aw U) (k:U.live c=none):NK aw c:=fun x e=>by
 refine Classical.not_not.1 fun hn=>?_
 have:=h c x e fun t ht e51=>hn ⟨t,ht,e51⟩
 rw [k] at this; cases this
theorem NK.ne {d:Nat} {x:Live} (h:NK aw c) (e:aw.live d=some x) (ht:∀ t,x=.tok t->t.e ≠ 51):d ≠ c:=by
 rintro rfl
 obtain ⟨t,h1,h2⟩:=h x e
 exact ht t h1 h2
theorem Fz.ir {bg:St} (h:Fz aw U) (n:NK aw c) (hs:∀ d,d ≠ c->bg.live d=U.live d):Fz aw bg:=fun d x e ht=>by
 rw [hs d (n.ne e ht)]; exact h d x e ht
structure Bu (aw U:St) (b:Nat) (s:aY):Prop where
 at_:(s=[]/\(U.live b=some (.sK 158 [.bU,.aA])\/U.box b=some [.box b 0,.aA]))\/(s ≠ []/\∃ τ,U.box b=some [.box b 0,.vec s.length (.own τ) (yG s)]/\U.tok τ=some ⟨s.length,5,1⟩/\NK aw τ)
 new:NK aw b
 fz:Fz aw U
theorem Bu.mono (h:Bu aw U b s) (e:Fz U af):Bu aw af b s:=by
 refine ⟨?_,h.new,h.fz.trans e⟩
 rcases h.at_ with ⟨h0,h | h⟩ | ⟨h0,τ,h,k,k2⟩
 . exact .inl ⟨h0,.inl (e _ _ h fun t e=>by cases e)⟩
 . exact .inl ⟨h0,.inr (e.bo h)⟩
 . exact .inr ⟨h0,τ,e.bo h,e.tok (show (5:Nat) ≠ 51 by decide) k,k2⟩
theorem Bu.ir {o:Nat} {z:fp} {bg:St} (h:Bu aw U b s) (hn:NK aw o) (ho:U.loop o=some z) (hs:∀ c,c ≠ o->bg.live c=U.live c):Bu aw bg b s:=by
 have ZG:b ≠ o:=by
  rintro rfl
  rcases h.at_ with ⟨_,h | h⟩ | ⟨_,τ,h,_⟩
  . unfold St.loop at ho; rw [h] at ho; cases ho
  . exact bV h ho rfl
  . exact bV h ho rfl
 refine ⟨?_,h.new,h.fz.ir hn hs⟩
 rcases h.at_ with ⟨h0,h | h⟩ | ⟨h0,τ,h,k,k2⟩
 . exact .inl ⟨h0,.inl (by rw [hs b ZG]; exact h)⟩
 . exact .inl ⟨h0,.inr (by rw [fE (hs b ZG)]; exact h)⟩
 . exact .inr ⟨h0,τ,by rw [fE (hs b ZG)]; exact h,by rw [kg (hs τ (rC k ho))]; exact k,k2⟩
def Ur (aw:St) (v:AV):Prop:=∀ n τ l,v=.vec n (.own τ) l->NK aw τ
theorem Gy {K':AV->St->Prop} {Kp:AV->St->Prop} (h:Bu aw U b s) (hk:∀ af v,(∀ c,c ≠ b->af.live c=U.live c)->af.box b=some [.box b 0,v]->Grow af v 5 1 s.length (yG s)->(s.length=0->v=.aA)->Ur aw v->Fz aw af->K' (.aG []) af):ag K 190 [.box b 0] U (aq K' Kp):=by
 rcases h.at_ with ⟨h0,h' | h'⟩ | ⟨h0,τ,h',k,k2⟩
 . subst h0
   exact uh h' (hk _ _ (fun c hc=>Fm hc) bD (.inl ⟨rfl,rfl,rfl⟩) (fun _=>rfl) (fun _ _ _ e=>by cases e) (h.fz.ir h.new fun c hc=>Fm hc))
 . subst h0
   exact qM h' (hk U _ (fun c _=>rfl) h' (.inl ⟨rfl,rfl,rfl⟩) (fun _=>rfl) (fun _ _ _ e=>by cases e) h.fz)
 . refine qM h' (hk U _ (fun c _=>rfl) h' (.inr ⟨τ,rfl,k,by simp [yG]⟩) (fun e=>absurd (tS.1 e) h0) (fun _ _ _ e=>?_) h.fz)
   simp only [AV.vec.injEq,nY.own.injEq] at e
   rw [<- e.2.1]; exact k2
theorem MZ {y v:AV} {K':AV->St->Prop} {Kp:AV->St->Prop} (ht:t ≠ []) (hy:pL U y=some (t.length,yG t)) (hb:U.box b=some [.box b 0,v]) (hg:Grow U v 5 1 s.length (yG s)) (h0:s.length=0->v=.aA) (hl:s.length+t.length <= 4294967296) (hn:Ur aw v) (hf:Fz aw U)
 (hk:∀ aQ v',Grow aQ v' 5 1 (s++t).length (yG (s++t))->aQ.box b=some [.box b 0,v]->(∀ c x,U.live c=some x->(∀ t,x ≠ .tok t)->aQ.live c=some x)->Ur aw v'->Fz aw aQ->K' v' aQ):(eu (some (5,1)) false v y U).wp K U K' Kp:=by
 have rU:0 < t.length:=List.length_pos_iff.2 ht
 refine Dr hg hy (by simp [yG]) rU hl h0 fun aQ v' g e1 n1=>?_
 have qh:∀ c x,U.live c=some x->(∀ t,x ≠ .tok t)->aQ.live c=some x:=fun c x hx yk=>e1 c x (fun n l hv=>by
  rcases hg with ⟨_,_,g⟩ | ⟨τ,g,nQ,_⟩
  . rw [g] at hv; cases hv
  . rw [g] at hv; cases hv
    unfold St.tok at nQ
    rw [hx] at nQ
    split at nQ
    . rename_i t' e'; cases e'; exact yk _ rfl
    . cases nQ) hx
 refine hk aQ v' (by rw [cZ]; simpa [yG] using g) ((lj hg e1).1 hb) qh (fun n τ l hv=>?_) fun c x hx yk=>?_
 . rcases n1 n τ l hv with hz | ⟨n2,l2,AY⟩
   . exact hf.nk hz
   . exact hn _ _ _ AY
 . exact e1 c x (fun n l hv=>(hn _ _ _ hv).ne hx yk rfl) (hf c x hx yk)
theorem Gz {v v':AV} {K':AV->St->Prop} {Kp:AV->St->Prop} (hs:s ≠ []) (hb:U.box b=some [.box b 0,v]) (g:Grow U v' 5 1 s.length (yG s)) (hn:Ur aw v') (Kf:NK aw b) (hf:Fz aw U) (hk:∀ aQ,Bu aw aQ b s->(∀ c,c ≠ b->aQ.live c=U.live c)->K' (.aG []) aQ):(aU (some (false,1)) (.box b 1) v' U).wp K U K' Kp:=by
 rcases g with ⟨h0,_,_⟩ | ⟨τ,rfl,r2,r3⟩
 . exact absurd (tS.1 h0) hs
 rw [dP hb]
 have pT:∀ c,c ≠ b->(U.set b (.box (aK [.box b 0,v] 1 (aC (.vec s.length (.own τ) (yG s)))))).live c=U.live c:=fun c hc=>by rw [dy,if_neg hc]
 exact ⟨⟨rfl,rfl,by simp⟩,hk _ ⟨.inr ⟨hs,τ,by rw [bD]; rfl,by rw [il (gg hb r2).symm]; exact r2,hn _ _ _ rfl⟩,Kf,hf.ir Kf pT⟩ pT⟩
theorem Xd (t:aY):pL U (.str t)=some (t.length,yG t):=rfl
theorem Em {K':AV->St->Prop} {Kp:AV->St->Prop} (ht:t ≠ []) (h:Bu aw U b s) (hl:s.length+t.length <= 100000000) (hk:∀ y af,Bu aw af b (s++t)->Eh b U af->K' y af):ag K 125 [.box b 0,.str t] U (aq K' Kp):=by
 refine Pm ?_
 unfold Pk
 refine Gy h fun aQ v pT hb hg h0 hn hf=>?_
 simp only [eo,al]
 refine fe (dj hb rfl ?_)
 refine MZ ht (Xd t) hb hg h0 (by omega) hn hf fun bg v' g2 mD iT AT ZV=>fe ?_
 refine Gz (s:=s++t) (by simp [ht]) mD g2 AT h.new ZV fun cz h3 SP=>?_
 show (br (some true) (AV.str t)).wp K cz _ _
 rw [show br (some true) (AV.str t)=.val (.int .i64 t.length) from rfl,al]
 refine aj.mk (hk _ _ h3 fun c x hc hx yk=>?_)
 rw [SP c hc]
 exact iT c x (by rw [pT c hc]; exact hx) yk
theorem Wg {c:UInt8} {K':AV->St->Prop} {Kp:AV->St->Prop} (h:Bu aw U b s) (hl:s.length <= 100000) (hk:∀ y af,Bu aw af b (s++[c])->Eh b U af->K' y af):ag K 189 [.box b 0,.int .u8 c.toNat] U (aq K' Kp):=by
 refine Qw ?_
 unfold Qv
 refine Gy h fun aQ v pT hb hg h0 hn hf=>?_
 simp only [eo,al]
 refine fe (dj hb rfl ?_)
 refine Ds rfl rfl ?_
 refine MZ (t:=[c]) (by simp) rfl hb hg h0 (by simp; omega) hn hf fun bg v' g2 mD iT AT ZV=>fe ?_
 refine Gz (s:=s++[c]) (by simp) mD g2 AT h.new ZV fun cz h3 SP=>?_
 refine aj.mk (hk _ _ h3 fun c x hc hx yk=>?_)
 rw [SP c hc]
 exact iT c x (by rw [pT c hc]; exact hx) yk
theorem MX {K':AV->St->Prop} {Kp:AV->St->Prop} (h:Bu aw U b s) (hk:K' (.int .i64 s.length) U):ag K 126 [.box b 0] U (aq K' Kp):=by
 refine Po ?_
 unfold Pn
 simp only [eo,al]
 rcases h.at_ with ⟨h0,h'⟩ | ⟨h0,τ,h',k,_⟩
 . subst h0
   obtain ⟨x,hx⟩:∃ x,U.box b=some [x,.aA]:=by
    rcases h' with h | h
    . exact ⟨.bU,by simp [St.box,h]⟩
    . exact ⟨_,h⟩
   refine fe (dj hx rfl ?_)
   exact aj.mk hk
 . refine fe (dj h' rfl ?_)
   exact aj.mk hk
theorem MY {K':AV->St->Prop} {Kp:AV->St->Prop} (h:Bu aw U b s) (hk:∀ af,Eh b U af->Fz aw af->K' (.str s) af):ag K 127 [.box b 0] U (aq K' Kp):=by
 rcases h.at_ with ⟨h0,h'⟩ | ⟨h0,τ,h',k,k2⟩
 . subst h0
   obtain ⟨x,hx⟩:∃ x,U.box b=some [x,.aA]:=by
    rcases h' with h | h
    . exact ⟨.bU,by simp [St.box,h]⟩
    . exact ⟨_,h⟩
   exact rM hx (hk U (fun c x _ hx _=>hx) h.fz)
 . refine vA h0 h' k (hk _ (fun c x _ hx yk=>?_) (h.fz.ir k2 fun c hc=>by rw [kD,if_neg hc]))
   rw [kD,if_neg]
   . exact hx
   . rintro rfl
     unfold St.tok at k
     rw [hx] at k
     split at k
     . rename_i t' e'; cases e'; exact yk _ rfl
     . cases k
end
theorem IB {x:Tx} (h:l9 x):Pure K 156 [.agg (jL x)] (.bool true):=by
 have hs:=qZ h
 refine Pure.of rfl rfl (fun U=>rfl) fun R hR=>?_
 refine Qd ?_
 unfold Qc
 rw [fg rfl]
 intro b1 gl
 have m1:((bJ ⟨.e,0⟩).new b1 (.box (aC (.agg (jL x))))).box b1=some (jL x):=aS
 generalize (bJ _).new b1 _=aw at *
 refine fe (dj m1 rfl ((Ck x.2 (by omega)).go ?_))
 rw [h.2]
 simp only [It,bH,List.drop,bN]
 rw [df]
 intro b3 pc
 have m3:(aw.new b3 (.box [AV.int .u8 0,AV.str [],AV.int .i64 0])).box b3=some [AV.int .u8 0,AV.str [],AV.int .i64 0]:=aS
 have n13:=pc.cH m1
 have m1:=(bE pc (x:=.box [AV.int .u8 0,AV.str [],AV.int .i64 0])).bo m1
 generalize aw.new b3 _=aQ at *
 rw [dP m3]
 refine ⟨⟨rfl,rfl,by simp⟩,?_⟩
 have m3:(aQ.set b3 (.box (aK [AV.int .u8 0,AV.str [],AV.int .i64 0] 0 (aC (.agg [.int .u8 x.1,.str x.2,.int .i64 0]))))).box b3=some (jL x):=by rw [bD]; rfl
 have m1:(aQ.set b3 (.box (aK [AV.int .u8 0,AV.str [],AV.int .i64 0] 0 (aC (.agg [.int .u8 x.1,.str x.2,.int .i64 0]))))).box b1=some (jL x):=by rw [bf n13]; exact m1
 generalize aQ.set b3 _=bg at *
 simp only [aT,al,bZ,aI,dN,aB,bq]
 refine hU (dz m3 rfl (hU (dz m1 rfl ?_)))
 simp only [aT,ax,bZ,az,if_true,al,aI,dN,aB,bq]
 refine hU (dz m3 rfl (hU (dz m1 rfl ?_)))
 simp only [fX,ax,bZ,az,if_true,al]
 exact aj.mk (hR _)
theorem KZ (a b:Tx):Pure K 188 [.agg (jL a),.agg (jL b)] (.bool (nh a b)):=by
 refine Pure.of rfl rfl (fun U=>rfl) fun R hR=>?_
 refine Qu ?_
 unfold Qt
 rw [fg rfl]
 intro b2 mD
 have m2:((bJ ⟨.e,0⟩).new b2 (.box (aC (.agg (jL a))))).box b2=some (jL a):=aS
 generalize (bJ _).new b2 _=aw at *
 rw [fg rfl]
 intro b3 pc
 have m3:(aw.new b3 (.box (aC (.agg (jL b))))).box b3=some (jL b):=aS
 have m2:=(bE pc (x:=.box (aC (.agg (jL b))))).bo m2
 generalize aw.new b3 _=aQ at *
 have e1:∀ n:Nat,decide ((n:Int)=4)=(n == 4):=fun n=>by
  rw [o3,da,beq_iff_eq]; omega
 refine fe (dj m2 rfl ?_)
 rw [cg,al,e1]
 have rP:=hR
 unfold nh at rP
 have rest:(a.1 != 4 && b.1 != 4)=false->(ae (some 1) (.box b2 0)).wp K aQ (fun bP U =>
  (ah (some (false,1)) bP U).wp K U (fun bK U =>
  (ai .eql (BT.mk false false false none false) true bK (AV.str eD)).wp K U (fun bj U =>
  ad K (ar bj true) (ae (some 1) (.box b3 0)) (fun bW =>
  ad K (ar bj true) (ah (some (false,1)) bW U) (fun bY =>
  ad K (ar bj true) (ai .eql (BT.mk false false false none false) true bY (AV.str iJ)) (fun bS =>
  (aO bj bS (AV.bool false)).wp K U (fun v20 U =>
  aj R v20 U) (aa R))))) (aa R)) (aa R)) (aa R):=by
  intro h0
  rw [h0,Bool.false_or] at rP
  have e2:∀ s t:aY,decide (s=t)=(s == t):=fun s t=>by
   by_cases h:s=t <;> simp [h]
  refine fe (dj m2 rfl ?_)
  rw [fX,al,e2]
  cases h1:(a.2 == eD) with
  | true =>
    simp only [aI,dN,aB,bq]
    refine hU (dz m3 rfl ?_)
    rw [fX,ax,e2]
    simp only [az,if_true,al]
    rw [h1,Bool.true_and] at rP
    exact aj.mk (rP _)
  | false =>
    simp only [aI,show (false == true)=false from rfl,aB,aZ,az,bC,if_false,al]
    rw [h1,Bool.false_and] at rP
    exact aj.mk (rP _)
 cases h1:(a.1 == 4) with
 | true =>
   simp only [cn,aI,show (false == true)=false from rfl,aB,aZ,az,bC,if_false,al]
   exact bO (rest (by simp only [bne,h1,cn,Bool.false_and]))
 | false =>
   simp only [dx,aI,dN,aB,bq]
   refine hU (dz m3 rfl ?_)
   rw [cg,ax,e1]
   simp only [az,if_true,al]
   cases h2:(b.1 == 4) with
   | true=>exact bO (rest (by simp only [bne,h1,h2,cn,dx,Bool.and_false]))
   | false =>
     refine ca (aj.mk ?_)
     have:(a.1 != 4 && b.1 != 4)=true:=by simp only [bne,h1,h2,dx,Bool.and_self]
     rw [this,Bool.true_or] at rP
     exact rP _
section
variable {U af:St} {vl:AV} {l:List Tx} {R:cO->St->Prop}
theorem RU (l:List Tx) (i:Nat):(mV l).drop (i * 3)=mV (l.drop i):=by
 induction l generalizing i with
 | nil=>simp [mV]
 | cons t l ih =>
   cases i with
   | zero=>simp
   | succ i =>
     rw [Nat.add_mul,show i * 3+1 * 3=3+i * 3 by omega,<- List.drop_drop,List.drop_succ_cons,<- ih]
     rfl
theorem KT {i:Nat} {x:Tx} (h:l[i]?=some x):∃ r,(mV l).drop (i * 3)=jL x++r:=by
 rw [RU,fU (de.1 h).1]
 refine ⟨mV (l.drop (i+1)),?_⟩
 have:=(de.1 h).2
 simp [mV,this]
theorem abp {i:Nat} {x:Tx} {K':AV->St->Prop} {Kp:AV->St->Prop} (hv:cB vl l.length (mV l)) (hx:l[i]?=some x) (hk:K' (.agg (jL x)) U) :
 (au (some (51,3)) none vl (.int .i64 (i:Nat))).wp K U (fun p U=>(ah (some (true,3)) p U).wp K U K' Kp) Kp:=by
 have aM:=(de.1 hx).1
 obtain ⟨r,hr⟩:=KT hx
 rcases hv with ⟨h1,_,_⟩ | ⟨c,rfl⟩
 . omega
 . rw [ua,dL,hr]
   refine ⟨by omega,?_⟩
   rw [rh]
   exact ⟨by simp [jL],hk⟩
theorem ae3 {i:Nat} {x:Tx} {k:AV->Prop} (hv:cB vl l.length (mV l)) (hx:l[i]?=some x) (hk:k (.agg (jL x))) :
 aF K (au (some (51,3)) none vl (.int .i64 (i:Nat))) fun p=>aF K (ah (some (true,3)) p U) k:=by
 have aM:=(de.1 hx).1
 obtain ⟨r,hr⟩:=KT hx
 rcases hv with ⟨h1,_,_⟩ | ⟨c,rfl⟩
 . omega
 . rw [Me,dL,hr]
   refine ⟨by omega,?_⟩
   rw [DY]
   exact ⟨by simp [jL],hk⟩
theorem Xh (hv:cB vl l.length (mV l)) (ho:∀ x ∈ l,l9 x) (hl:l.length <= 1000000) (h:∀ af,dD U af->R (.ret (.int .i64 (if 900 < l.length then 5 else 0))) af):ag K 93 [vl] U R:=by
 refine TS ?_
 unfold VL
 rw [hv.len,al,cx,al]
 refine cu (fun h9=>?_) fun h9=>?_
 . rw [if_pos (by omega)] at h
   exact aj.mk (h _ (dD.refl U))
 rw [if_neg (by omega)] at h
 rw [al]
 refine ⟨fun m w8 w9 FL af=>∃ i:Nat,m=l.length - i/\i <= l.length/\w8=vl/\w9=.int .i64 l.length/\FL=.int .i64 (i:Nat)/\dD U af,⟨_,0,rfl,by omega,rfl,rfl,rfl,dD.refl U⟩,?_⟩
 rintro m w8 w9 FL aQ ⟨i,rfl,hi,rfl,rfl,rfl,e1⟩
 rw [a7,al]
 refine cu (fun aM=>?_) fun gq=>aj.mk (h _ e1)
 have aM:i < l.length:=by omega
 obtain ⟨x,hx⟩:∃ x,l[i]?=some x:=⟨l[i],by simp [aM]⟩
 refine abp hv hx ?_
 rw [df]
 intro b4 iS
 have m4:(aQ.new b4 (.box [AV.int .u8 0,AV.str [],AV.int .i64 0])).box b4=some [AV.int .u8 0,AV.str [],AV.int .i64 0]:=aS
 have e2:=e1.new iS (x:=.box [AV.int .u8 0,AV.str [],AV.int .i64 0])
 have f4:=e1.fresh iS.1
 generalize aQ.new b4 _=bg at *
 rw [dP m4]
 refine ⟨⟨rfl,rfl,by simp [jL]⟩,?_⟩
 have m4:(bg.set b4 (.box (aK [AV.int .u8 0,AV.str [],AV.int .i64 0] 0 (aC (.agg (jL x)))))).box b4=some (jL x):=by rw [bD]; rfl
 have e3:=e2.set f4 (x:=.box (aK [AV.int .u8 0,AV.str [],AV.int .i64 0] 0 (aC (.agg (jL x)))))
 generalize bg.set b4 _=cz at *
 rw [pA m4]
 refine ⟨by simp [jL],(IB (ho x (fl hx))).go ?_⟩
 simp only [dA,al,cn]
 refine bO ?_
 rw [cr]
 exact ⟨aW (by omega) (by omega),l.length - (i+1),by omega,i+1,rfl,by omega,rfl,rfl,by simp,e3⟩
theorem xO:∀ (l:List Tx) (a b:Tx),eM (l++[a,b])=eM (l++[a])++(if nh a b then [32] else [])++b.2
 | [],a,b=>by simp [eM]
 | [c],a,b=>by simp [eM]
 | c::d::l,a,b=>by
   have:=xO (d::l) a b
   simp only [iX,Dg] at this ⊢
   rw [this]; simp
theorem zU:∀ (l:List Tx),(∀ x ∈ l,l9 x)->(eM l).length <= 13 * l.length
 | [],_=>by simp [eM]
 | [a],h=>by have:=qZ (h a (by simp)); simp [eM]; omega
 | a::b::l,h=>by
   have h1:=qZ (h a (by simp))
   have h2:=zU (b::l) fun x hx=>h x (by simp only [cF] at hx ⊢; exact .inr hx)
   rw [Dg,cZ,cZ]
   have:(if nh a b=true then [(32:UInt8)] else []).length <= 1:=by split <;> simp
   simp only [gu] at h2 ⊢
   omega
end
end Go.Rip
namespace Go.Rip
open Go.Proofs Go.RowKit
section
variable {U af:St} {vl:AV} {l:List Tx} {R:cO->St->Prop}
theorem T4 (hv:cB vl l.length (mV l)) (ho:∀ x ∈ l,l9 x) (hl:l.length <= 1000000) (h:∀ af,Fz U af->R (.ret (.aG [.str (dG l).1,.int .i64 (dG l).2])) af):ag K 124 [vl] U R:=by
 refine Pj ?_
 unfold Ph
 refine Xh hv ho hl fun aQ e1=>?_
 rw [bL,cg,al]
 by_cases h9:900 < l.length
 . have hE:dG l=([],5):=by unfold dG; rw [if_pos h9]
   rw [if_pos h9]
   simp only [show decide ((5:Int)=0)=false from rfl,dx]
   refine ca (aj.mk ?_)
   rw [hE] at h
   exact h _ (.tM e1)
 rw [if_neg h9]
 simp only [bZ,cn]
 refine bO ?_
 rw [pq]
 intro b5 lS
 rw [show NV.at b5 .box=AV.box b5 0 from rfl]
 have hB:Bu aQ (aQ.new b5 (.sK 158 [.bU,.aA])) b5 []:=⟨.inl ⟨rfl,.inl (by rw [lG,if_pos rfl])⟩,.of lS.1,.tM (bE lS)⟩
 generalize aQ.new b5 _=bg at *
 rw [hv.len,al]
 have rU:∀ i,(eM (l.take i)).length <= 13 * l.length:=fun i=>by
  have:=zU (l.take i) fun x hx=>ho x (List.mem_of_mem_take hx)
  rw [List.length_take] at this; omega
 refine ⟨fun m w0 w5 FM w14 w15 af=>∃ i:Nat,m=l.length - i/\i <= l.length/\vl=w0/\w5=.box b5 0/\vl=FM/\w14=.int .i64 l.length/\w15=.int .i64 (i:Nat)/\Bu aQ af b5 (eM (l.take i)),⟨_,0,rfl,by omega,rfl,rfl,rfl,rfl,rfl,by simpa [eM] using hB⟩,?_⟩
 clear hB
 rintro m w0 w5 FM w14 w15 cz ⟨i,rfl,hi,rfl,rfl,rfl,rfl,rfl,hB⟩
 rw [a7,al]
 refine cu (fun aM=>?_) fun gq=>?_
 . have aM:i < l.length:=by omega
   obtain ⟨x,hx⟩:∃ x,l[i]?=some x:=⟨l[i],by simp [aM]⟩
   have EJ:=ho x (fl hx)
   refine abp hv hx ?_
   rw [df]
   intro b7 lT
   have m7:(cz.new b7 (.box [AV.int .u8 0,AV.str [],AV.int .i64 0])).box b7=some [AV.int .u8 0,AV.str [],AV.int .i64 0]:=aS
   have f7:=hB.fz.nk lT.1
   have Zv:=hB.mono (.tM (bE lT (x:=.box [AV.int .u8 0,AV.str [],AV.int .i64 0])))
   have Ve:b7 ≠ b5:=by
    rintro rfl
    rcases hB.at_ with ⟨_,h' | h'⟩ | ⟨_,τ,h',_⟩
    . rw [lT.1] at h'; cases h'
    . exact dc h' lT.1
    . exact dc h' lT.1
   have e7:=bE lT (x:=.box [AV.int .u8 0,AV.str [],AV.int .i64 0])
   have aco:∀ {τ:Nat} {tt:Tok},(cz.new b7 (.box [AV.int .u8 0,AV.str [],AV.int .i64 0])).tok τ=some tt->τ ≠ b7:=fun ht=>(gg m7 ht).symm
   generalize cz.new b7 _=dZ at *
   rw [dP m7]
   refine ⟨⟨rfl,rfl,by simp [jL]⟩,?_⟩
   have Va:(dZ.set b7 (.box (aK [AV.int .u8 0,AV.str [],AV.int .i64 0] 0 (aC (.agg (jL x)))))).box b7=some (jL x):=by rw [bD]; rfl
   have Zw:Bu aQ (dZ.set b7 (.box (aK [AV.int .u8 0,AV.str [],AV.int .i64 0] 0 (aC (.agg (jL x)))))) b5 (eM (l.take i)):=by
    have hs:∀ c,c ≠ b7->(dZ.set b7 (.box (aK [AV.int .u8 0,AV.str [],AV.int .i64 0] 0 (aC (.agg (jL x)))))).live c=dZ.live c:=fun c hc=>by rw [dy,if_neg hc]
    refine ⟨?_,Zv.new,Zv.fz.ir f7 hs⟩
    rcases Zv.at_ with ⟨h0,h' | h'⟩ | ⟨h0,τ,h',k,k2⟩
    . exact .inl ⟨h0,.inl (by rw [hs _ Ve.symm]; exact h')⟩
    . exact .inl ⟨h0,.inr (by rw [fE (hs _ Ve.symm)]; exact h')⟩
    . exact .inr ⟨h0,τ,by rw [fE (hs _ Ve.symm)]; exact h',by rw [kg (hs τ (aco k))]; exact k,k2⟩
   generalize dZ.set b7 _=eW at *
   intro j hj
   have tail:∀ (s:aY) (af:St),Bu aQ af b5 s->af.box b7=some (jL x)->s++x.2=eM (l.take (i+1))->s.length <= 50000->j vl (.box b5 0) (.box b7 0) vl (.int .i64 l.length) (.int .i64 (i:Nat)) af:=by
    intro s af tu m7 e ni
    refine hj _ _ _ _ _ _ _ ?_
    refine fe (dj m7 rfl ?_)
    have vR:=qZ EJ
    refine Em EJ.1 tu (by omega) fun y ib aea _=>?_
    rw [cr]
    exact ⟨aW (by omega) (by omega),l.length - (i+1),by omega,i+1,rfl,by omega,rfl,rfl,rfl,rfl,by simp,by rw [<- e]; exact aea⟩
   have jF:l.take (i+1)=l.take i++[x]:=by rw [lM,hx]; rfl
   have hti:=rU i
   rw [cx,ax]
   by_cases sE:i=0
   . subst sE
     simp only [show decide ((0:Int) < ((0:Nat):Int))=false from rfl,aI,show (false == true)=false from rfl,aB,aZ,az,bC,if_false,ax]
     refine bO (tail _ eW Zw Va ?_ (by simp [eM]))
     rw [jF]; simp [eM]
   . obtain ⟨k,rfl⟩:∃ k,i=k+1:=⟨i - 1,by omega⟩
     obtain ⟨y,hy⟩:∃ y,l[k]?=some y:=⟨l[k]'(by omega),by simp [show k < l.length by omega]⟩
     have aeE:l.take (k+1)=l.take k++[y]:=by rw [lM,hy]; rfl
     have oQ:eM (l.take (k+1+1))=eM (l.take (k+1))++(if nh y x then [32] else [])++x.2:=by
      rw [jF,aeE,kI]; exact xO _ _ _
     have aeg:decide ((0:Int) < ((k+1:Nat):Int))=true:=decide_eq_true (by omega)
     simp only [aeg,aI,dN,aB,bq,ax]
     rw [Vi]
     refine ⟨aW (by omega) (by omega),?_⟩
     have oP:(((k+1:Nat):Int) - 1)=((k:Nat):Int):=by omega
     rw [oP]
     refine ae3 hv hy ?_
     rw [CZ Va]
     refine ⟨by simp [jL],?_⟩
     rw [show ((jL x).drop 0).take 3=jL x from rfl]
     refine gV (KZ y x) ?_
     simp only [az,if_true,ax]
     cases G5:nh y x with
     | true =>
       refine ca ?_
       rw [G5,if_pos rfl] at oQ
       refine Wg (c:=32) Zw (by omega) fun yy oU Zx f6=>?_
       refine tail _ oU Zx (f6.bo Ve Va) oQ.symm (by simp; omega)
     | false =>
       refine bO (tail _ eW Zw Va ?_ (by omega))
       rw [G5] at oQ
       rw [oQ]; simp
 . have hi:i=l.length:=by omega
   subst hi
   rw [oq] at hB
   refine MX hB ?_
   rw [cx,al]
   refine cu (fun vJ=>?_) fun vJ=>?_
   . have hE:dG l=([],5):=by unfold dG; rw [if_neg h9,if_pos (by omega)]
     rw [hE] at h
     exact aj.mk (h _ ((Fz.tM e1).trans hB.fz))
   . have hE:dG l=(eM l,0):=by unfold dG; rw [if_neg h9,if_neg (by omega)]
     rw [hE] at h
     refine MY hB fun dZ _ hf=>aj.mk (h _ ((Fz.tM e1).trans hf))
end
def kS (ks:List (Int × List Tx)):Nat:=(ks.map fun y=>y.2.length+3).sum
theorem DO {c:Prop} [Decidable c] {A B:List Tx} {n:Nat} (h1:c->A.length <= n) (h2:¬ c->B.length <= n):(if c then A else B).length <= n:=by
 split
 . exact h1 ‹_›
 . exact h2 ‹_›
theorem BQ (w:aY):∀ (ls:List (List Tx)),(dr w ls).length <= (ls.map fun l=>l.length+1).sum
 | []=>by simp [dr]
 | [l]=>by simp [dr]
 | l::m::ls=>by
   have:=BQ w (m::ls)
   rw [dr]
   simp only [cZ,gu,dV,List.sum_cons] at this ⊢
   omega
theorem D5 (w:aY) (ks:List (Int × List Tx)):(dr w (ks.map (·.2))).length <= kS ks:=by
 refine Nat.le_trans (BQ _ _) ?_
 unfold kS
 induction ks with
 | nil=>simp
 | cons y ks ih=>simp only [dV,List.sum_cons] at ih ⊢; omega
theorem vy (k:Int) (n:Nat) (l:List Tx):(cY k n l).length <= l.length+2:=by
 unfold cY
 split
 . omega
 . simp
theorem aaK (ks:List (Int × List Tx)):(dr dO (ks.map fun x=>cY x.1 1 x.2)).length <= kS ks:=by
 refine Nat.le_trans (BQ _ _) ?_
 unfold kS
 induction ks with
 | nil=>simp
 | cons y ks ih =>
   have:=vy y.1 1 y.2
   simp only [dV,List.sum_cons] at ih ⊢; omega
theorem HB (a b:List (Int × List Tx)):kS (a++b)=kS a+kS b:=by simp [kS]
theorem Zp:∀ (ks:List (Int × List Tx)),(ks.getD 0 (0,[])).2.length+(ks.getD 1 (0,[])).2.length+(ks.getD 2 (0,[])).2.length <= kS ks
 | []=>by simp [kS]
 | [a]=>by simp [kS]
 | [a,b]=>by simp [kS]; omega
 | a::b::c::ks=>by simp [kS]; omega
theorem Zm (w:aY) (ks:List (Int × List Tx)):(dr w ((ks.map (·.2)).take (ks.length - 1))).length+(ks.getD (ks.length - 1) (0,[])).2.length <= kS ks:=by
 cases ks with
 | nil=>simp [dr,kS]
 | cons y r =>
   obtain ⟨q,x,hq⟩:=ly (l:=y::r) (by simp)
   rw [hq]
   have:=D5 w q
   have e:(q++[x]).length - 1=q.length:=by simp
   rw [e,HB,List.map_append,List.take_left' (by simp)]
   have:((q++[x]).getD q.length (0,[])).2=x.2:=by simp [mv]
   rw [this]
   have:kS [x]=x.2.length+3:=by simp [kS]
   omega
theorem Zo (w:aY) (ks:List (Int × List Tx)) (h:2 <= ks.length):(dr w ((ks.map (·.2)).take (ks.length - 2))).length+(ks.getD (ks.length - 2) (0,[])).2.length+(ks.getD (ks.length - 1) (0,[])).2.length <= kS ks:=by
 obtain ⟨q1,y,rfl⟩:=ly (l:=ks) (by omega)
 obtain ⟨q,x,rfl⟩:=ly (l:=q1) (by simp at h; omega)
 have:=D5 w q
 have e:(q++[x]++[y]).length - 2=q.length:=by simp
 have e1:(q++[x]++[y]).length - 1=q.length+1:=by simp
 rw [e,e1,HB,HB,kI,List.map_append,List.take_left' (by simp)]
 have h1:((q++([x]++[y])).getD q.length (0,[])).2=x.2:=by simp [mv]
 have h2:((q++([x]++[y])).getD (q.length+1) (0,[])).2=y.2:=by simp [mv]
 rw [h1,h2]
 have:kS [x]=x.2.length+3:=by simp [kS]
 have:kS [y]=y.2.length+3:=by simp [kS]
 omega
theorem Mb {k:Int} {t:aY} {n m:Int} {ks:List (Int × List Tx)} (h34:k=3\/k=4->2 <= ks.length):(ck k t n m ks).length <= 16+kS ks:=by
 have f3:=Zp ks
 have f1:=Zm dW ks
 have f0:=D5 dW ks
 have fq:=aaK ks
 have b0:=fun l=>vy (ks.getD 0 (0,[])).1 l (ks.getD 0 (0,[])).2
 have b1:=fun l=>vy (ks.getD 1 (0,[])).1 l (ks.getD 1 (0,[])).2
 have b2:=fun l=>vy (ks.getD 2 (0,[])).1 l (ks.getD 2 (0,[])).2
 have bl:=fun l=>vy (ks.getD (ks.length - 1) (0,[])).1 l (ks.getD (ks.length - 1) (0,[])).2
 unfold ck
 simp only
 refine DO (fun c=>?_) (fun c2=>DO (fun c=>?_) (fun c34=>?_))
 . simp only [cZ,gu,kJ]; omega
 . have f2:=Zo dW ks (h34 c)
   simp only [cZ,gu,kJ]; omega
 repeat' (refine DO (fun c=>?_) (fun c=>?_))
 all_goals try simp only [cZ,gu,kJ]
 all_goals first
  | omega
  | (have:=b0 1; have:=b1 1; have:=b2 1; omega)
  | (have:=b0 4; omega)
  | (have:=b0 8; omega)
  | (have:=b0 (if dk k=5 then 6 else dk k); have:=b1 (dk k+1); omega)
  | (have:=bl 1; omega)
theorem S1 {ks:List Tre} (h:c7 (ks.map Tre.kind) [⟨.kind 5,0,900⟩,⟨.base,1,1⟩,⟨.term,1,1⟩]=true):2 <= ks.length:=by
 refine Nat.le_of_not_lt fun aM=>?_
 obtain ⟨ps,a,b,rfl,_⟩:=xg (by omega) h
 simp at aM; omega
theorem WS {k:Int} {x:aY} {n m a:Int} {ks:List Tre} (ho:(Tre.mk k x n m a ks).ok=true):(Tre.mk k x n m a ks).pr.length <= 16+(ks.map fun t=>t.pr.length+3).sum:=by
 obtain ⟨f,hf,g1,g2,g3⟩:=Tre.xm ho
 rw [Tre.c6]
 have h:=Mb (k:=k) (t:=x) (n:=n) (m:=m) (ks:=ks.map fun t=>(t.kind,t.pr)) (fun h=>by
  have od:f=⟨true,false,false,[⟨.kind 5,0,900⟩,⟨.base,1,1⟩,⟨.term,1,1⟩]⟩:=by rcases h with rfl | rfl <;> simpa [bw] using hf.symm
  subst od
  rw [List.length_map]
  exact S1 g2)
 have e:kS (ks.map fun t=>(t.kind,t.pr))=(ks.map fun t=>t.pr.length+3).sum:=by
  unfold kS; rw [List.map_map]; rfl
 rw [e] at h
 exact h
theorem WT:∀ (N:Nat) (ts:List Tre),(Tre.bQ ts).length <= N->(∀ t ∈ ts,t.ok=true)->(ts.map fun t=>t.pr.length+3).sum <= 19 * (Tre.bQ ts).length:=by
 intro N
 induction N with
 | zero =>
   intro ts hN ho
   cases ts with
   | nil=>simp
   | cons t ts=>have:=t.du; simp only [Tre.dh,cZ] at hN; omega
 | succ N ih =>
   intro ts hN ho
   cases ts with
   | nil=>simp
   | cons t ts =>
     have ht:=ho t (by simp)
     have yZ:=jm t
     simp only [Tre.dh,cZ] at hN
     have i1:=ih t.kids (by omega) fun c hc=>(vZ ht c hc).2
     have i2:=ih ts (by omega) fun c hc=>ho c (by simp [hc])
     have hn:t.pr.length <= 16+(t.kids.map fun t=>t.pr.length+3).sum:=by
      cases t with
      | mk k x n m a ks=>exact WS ht
     rw [Tre.dh,cZ,dV,List.sum_cons]
     omega
theorem ON {t:Tre} (ho:t.ok=true):t.pr.length <= 19 * t.flat.length:=by
 have:=WT _ [t] (gE _) (by simpa using ho)
 simp at this
 omega
end Go.Rip
namespace Go.Rip
open Go.Proofs Go.RowKit
section
variable {v:AV} {L:List Nd} {U:St} {R:cO->St->Prop} {s:Tre} {n:Nat}
theorem PS.fz {b:Nat} {aw af:St} {aL:List Tx} (h:PS b v aw aL af) (hb:NK aw b):Fz aw af:=fun c x hx ht=>h.fr c x (hb.ne hx ht) hx ht
theorem KM {v:AV} {l:List Nd} (h:Sl v l):v.eF=true/\aC v=[v]:=by
 rcases h.s with ⟨_,_,rfl⟩ | ⟨c,rfl⟩ <;> exact ⟨rfl,rfl⟩
theorem Fz.C6 {c:Nat} {aw U:St} {x:Live} (h:Fz aw U) (n:NK aw c):Fz aw (U.set c x):=h.ir n fun d hd=>by rw [dy,if_neg hd]
theorem Ir (hv:Sl v L) (hL:L.length <= 1000) (hz:∀ (i:Nat) (y:Nd),L[i]?=some y->y.size <= 100000) (hs:cQ L n s) (h9:s.flat.length <= 900) (ho:s.ok=true) (h1:s.kind ≠ 1)
 (h:∀ af,Fz U af->R (.ret (.aG [.str (dG s.pr).1,.int .i64 (dG s.pr).2])) af):ag K 64 [.agg [v],.int .i64 (n:Nat)] U R:=by
 obtain ⟨x,hx,nq,U3,_⟩:=hs.lR
 have hle:=hs.le
 have ll:=ON ho
 have vN:=HP hv hL hz _ s n (gE _) hs h9 ho h1
 refine Ij ?_
 unfold Mr
 rw [fg rfl]
 intro b2 mD
 have m2:(U.new b2 (.box (aC (.agg [v])))).box b2=some [v]:=aS
 have e2:=bE mD (x:=.box (aC (.agg [v])))
 generalize U.new b2 _=aw at *
 rw [df]
 intro b4 iS
 have m4:(aw.new b4 (.box [AV.str []])).box b4=some [.str []]:=aS
 have CR:=iS.cH m2
 have f4:=e2.fresh iS.1
 have e4:=e2.new iS (x:=.box [AV.str []])
 have m2:=(bE iS (x:=.box [AV.str []])).bo m2
 generalize aw.new b4 (.box [AV.str []])=aQ at *
 rw [df]
 intro b5 lS
 have m5:(aQ.new b5 (.box [AV.int .i64 0])).box b5=some [.int .i64 0]:=aS
 have n25:=lS.cH m2
 have A5:=lS.cH m4
 have f5:=e4.fresh lS.1
 have e5:=e4.new lS (x:=.box [AV.int .i64 0])
 have m2:=(bE lS (x:=.box [AV.int .i64 0])).bo m2
 have m4:=(bE lS (x:=.box [AV.int .i64 0])).bo m4
 generalize aQ.new b5 (.box [AV.int .i64 0])=bg at *
 refine fe (fe (dj m2 rfl (sw (hv.fI _) hx (show (cM x)[0]?=some (.int .u8 x.kind) from rfl) ?_)))
 rw [nq,cg,al,decide_eq_false h1]
 simp only [dx]
 refine ca ?_
 rw [CZ m2]
 refine ⟨by simp,gV HU ?_⟩
 rw [aax]
 refine Y3 [v,.aA,opsV] ?_ ?_
 . obtain ⟨l1,l2⟩:=KM hv
   simp [sf,opsV,aK]
 rw [fg rfl]
 intro MP G6
 have m22:(bg.new MP (.box (aC (.agg [v,.aA,opsV])))).box MP=some [v,.aA,opsV]:=aS
 have n2:=G6.cH m2
 have en:=bE G6 (x:=.box (aC (.agg [v,.aA,opsV])))
 have aek:NK bg MP:=.of G6.1
 have hP:PS MP v bg [] (bg.new MP (.box (aC (.agg [v,.aA,opsV])))):=⟨⟨.aA,m22,fW.nil (sR _)⟩,.tM en⟩
 have afV:=G6.cH m4
 have afW:=G6.cH m5
 refine ⟨fun b hb=>?_,?_⟩
 . simp only [dK,gw,cF,List.not_mem_nil,or_false] at hb
   subst hb
   rw [lG,if_neg n2]
 refine vN _ _ _ _ _ hP (by unfold NT; simp; omega) fun cz h3=>?_
 rw [bL]
 rw [mw] at h3
 have f3:=h3.fz aek
 obtain ⟨⟨vl,fP,hg⟩,_⟩:=h3
 simp only [eo,al]
 refine fe (dj fP rfl ?_)
 refine T4 hg.sl (Mc _ s (gE _) ho) (by omega) fun dZ f4'=>?_
 simp only [bL,bH,List.drop,bN]
 have f34:=f3.trans f4'
 have m4:=f34.bo m4
 have m5:=f34.bo m5
 rw [dP m4]
 refine ⟨⟨rfl,rfl,by simp⟩,?_⟩
 rw [dP (show (dZ.set b4 _).box b5=some [.int .i64 0] by rw [bf A5.symm]; exact m5)]
 refine ⟨⟨rfl,rfl,by simp⟩,?_⟩
 rw [xG (show ((dZ.set b4 (.box (aK [.str []] 0 (aC (.str (dG s.pr).1))))).set b5 (.box (aK [.int .i64 0] 0 (aC (.int .i64 (dG s.pr).2))))).box b4=some [.str (dG s.pr).1] by rw [bf A5,bD]; rfl) rfl]
 rw [xG bD rfl]
 refine aj.mk (h _ ?_)
 have hfz:Fz U dZ:=(Fz.tM e5).trans f34
 exact (hfz.C6 (.of f4)).C6 (.of f5)
theorem xN {t:Tre} {ts:List Tre} {acc:aY}:ik (t::ts) acc=if (dG t.pr).2 ≠ 0 then ([],(dG t.pr).2) else ik ts (acc++(dG t.pr).1++[10]):=rfl
theorem TZ (hv:Sl v L) (hL:L.length <= 1000) (hz:∀ (i:Nat) (y:Nd),L[i]?=some y->y.size <= 100000) (hs:cQ L n s) (h9:s.flat.length <= 900) (ho:s.ok=true) (h1:s.kind=1)
 (h:∀ af,Fz U af->R (.ret (.aG [.str (ik s.kids []).1,.int .i64 (ik s.kids []).2])) af):ag K 64 [.agg [v],.int .i64 (n:Nat)] U R:=by
 obtain ⟨x,hx,nq,U3,_⟩:=hs.lR
 have hle:=hs.le
 have yZ:=jm s
 have iq:=vZ ho
 refine Ij ?_
 unfold Mr
 rw [fg rfl]
 intro b2 mD
 have m2:(U.new b2 (.box (aC (.agg [v])))).box b2=some [v]:=aS
 have e2:=bE mD (x:=.box (aC (.agg [v])))
 generalize U.new b2 _=aw at *
 rw [df]
 intro b4 iS
 have m4:(aw.new b4 (.box [AV.str []])).box b4=some [.str []]:=aS
 have CR:=iS.cH m2
 have f4:=e2.fresh iS.1
 have e4:=e2.new iS (x:=.box [AV.str []])
 have m2:=(bE iS (x:=.box [AV.str []])).bo m2
 generalize aw.new b4 (.box [AV.str []])=aQ at *
 rw [df]
 intro b5 lS
 have m5:(aQ.new b5 (.box [AV.int .i64 0])).box b5=some [.int .i64 0]:=aS
 have n25:=lS.cH m2
 have A5:=lS.cH m4
 have f5:=e4.fresh lS.1
 have e5:=e4.new lS (x:=.box [AV.int .i64 0])
 have m2:=(bE lS (x:=.box [AV.int .i64 0])).bo m2
 have m4:=(bE lS (x:=.box [AV.int .i64 0])).bo m4
 generalize aQ.new b5 (.box [AV.int .i64 0])=bg at *
 refine fe (fe (dj m2 rfl (sw (hv.fI _) hx (show (cM x)[0]?=some (.int .u8 x.kind) from rfl) ?_)))
 rw [nq,cg,al,decide_eq_true h1]
 simp only [cn]
 refine bO ?_
 rw [pq]
 intro b7 lT
 rw [show NV.at b7 .box=AV.box b7 0 from rfl]
 have hB:Bu U (bg.new b7 (.sK 158 [.bU,.aA])) b7 []:=⟨.inl ⟨rfl,.inl (by rw [lG,if_pos rfl])⟩,.of (e5.fresh lT.1),.tM (e5.new lT)⟩
 have n27:=lT.cH m2
 have Vd:=lT.cH m4
 have n57:=lT.cH m5
 have e7:=bE lT (x:=.sK 158 [.bU,.aA])
 have m2:=e7.bo m2
 have m4:=e7.bo m4
 have m5:=e7.bo m5
 generalize bg.new b7 _=cz at *
 refine mX m2 ?_
 refine xh (n:=n) hv.s hx (aW (by omega) (by omega)) fun bn be bt dZ d1 d2 d3 f1 f2 f3 q1 q2 q3 e3=>?_
 rw [bL]
 have n2n:b2 ≠ bn:=fun e=>dc m2 (e ▸ f1)
 have n4n:b4 ≠ bn:=fun e=>dc m4 (e ▸ f1)
 have n4e:b4 ≠ be:=fun e=>dc m4 (e ▸ f2)
 have n4t:b4 ≠ bt:=fun e=>dc m4 (e ▸ f3)
 have n5n:b5 ≠ bn:=fun e=>dc m5 (e ▸ f1)
 have n5e:b5 ≠ be:=fun e=>dc m5 (e ▸ f2)
 have n5t:b5 ≠ bt:=fun e=>dc m5 (e ▸ f3)
 have Y0:cz.live b7 ≠ none:=by
  rcases hB.at_ with ⟨_,h' | h'⟩ | ⟨_,τ,h',_⟩
  . rw [h']; simp
  . exact dc h'
  . exact dc h'
 have n7n:b7 ≠ bn:=fun e=>Y0 (e ▸ f1)
 have n7e:b7 ≠ be:=fun e=>Y0 (e ▸ f2)
 have n7t:b7 ≠ bt:=fun e=>Y0 (e ▸ f3)
 have m2:=e3.bo m2
 have m4:=e3.bo m4
 have m5:=e3.bo m5
 have hB:=hB.mono (.tM e3)
 have Ka:fy L ((n:Int)+x.size) L.length (n+1)=aX (n+1) s.kids:=by
  rw [U3]; exact xe hs
 have jQ:s.kids.length <= 900:=by have:=Tre.mC s.kids; omega
 have ret:∀ (af:St) (a:aY) (e:Int),af.box b4=some [.str a]->af.box b5=some [.int .i64 e]->Fz U af->a=(ik s.kids []).1->e=(ik s.kids []).2->bF (some (false,1)) (.box b4 0) af fun r0=>bF (some (false,1)) (.box b5 0) af fun r1=>aj R (AV.aG [r0,r1]) af:=by
  intro af a e k4 k5 hf ha he
  rw [xG k4 rfl,xG k5 rfl]
  subst ha he
  exact aj.mk (h _ hf)
 have put:∀ (af:St) (a0 a:aY) (e0 e:Int) (Q:St->Prop),af.box b4=some [.str a0]->af.box b5=some [.int .i64 e0]->Fz U af ->
  (∀ ib,ib.box b4=some [.str a]->ib.box b5=some [.int .i64 e]->Fz U ib->(∀ c,c ≠ b4->c ≠ b5->ib.live c=af.live c)->Q ib)->∀ (P1 P2:AV->St->Prop),(aU (some (false,1)) (.box b4 0) (.str a) af).wp K af (fun _ U=>(aU (some (false,1)) (.box b5 0) (.int .i64 e) U).wp K U (fun _ U=>Q U) P2) P1:=by
  intro af a0 a e0 e Q k4 k5 hf hQ P1 P2
  rw [dP k4]
  refine ⟨⟨rfl,rfl,by simp⟩,?_⟩
  rw [dP (show (af.set b4 (.box (aK [.str a0] 0 (aC (.str a))))).box b5=some [.int .i64 e0] by rw [bf A5.symm]; exact k5)]
  refine ⟨⟨rfl,rfl,by simp⟩,hQ _ ?_ ?_ ?_ ?_⟩
  . rw [bf A5,bD]; rfl
  . rw [bD]; rfl
  . exact (hf.C6 (.of f4)).C6 (.of f5)
  . intro c c4 c5
    rw [dy,if_neg c5,dy,if_neg c4]
 have fin:∀ (af:St) (acc:aY),af.box b4=some [.str []]->af.box b5=some [.int .i64 0]->Bu U af b7 acc->ik s.kids []=ik [] acc ->
  ag K 126 [.box b7 0] af (aq (fun v49 U =>
  (ai .gtr (BT.mk false false false none false) true v49 (AV.int .i64 2500)).wp K U (fun fJ U =>
  ao fJ (
   (aU (some (false,1)) (.box b4 0) (AV.str w_) U).wp K U (fun _ U =>
   (aU (some (false,1)) (.box b5 0) (AV.int .i64 5) U).wp K U (fun _ U =>
   bF (some (false,1)) (.box b4 0) U fun qT =>
   bF (some (false,1)) (.box b5 0) U fun HZ =>
   aj R (AV.aG [qT,HZ]) U) (aa R)) (aa R)) (
   ag K 127 [.box b7 0] U (aq (fun v51 U =>
   (aU (some (false,1)) (.box b4 0) v51 U).wp K U (fun _ U =>
   (aU (some (false,1)) (.box b5 0) (AV.int .i64 0) U).wp K U (fun _ U =>
   bF (some (false,1)) (.box b4 0) U fun qU =>
   bF (some (false,1)) (.box b5 0) U fun H0 =>
   aj R (AV.aG [qU,H0]) U) (aa R)) (aa R)) (aa R)))) (aa R)) (aa R)):=by
  intro af acc k4 k5 tu e
  refine MX tu ?_
  rw [cx,al]
  refine cu (fun vJ=>?_) fun vJ=>?_
  . have hE:ik s.kids []=([],5):=by rw [e,ik,if_pos (by omega)]
    exact put af [] [] 0 5 _ k4 k5 tu.fz (fun ib j4 j5 hf _=>ret ib [] 5 j4 j5 hf (by rw [hE]) (by rw [hE])) _ _
  . have hE:ik s.kids []=(acc,0):=by rw [e,ik,if_neg (by omega)]
    refine MY tu fun eW yN hf5=>?_
    exact put eW [] acc 0 0 _ (yN.bo Vd k4) (yN.bo n57 k5) hf5 (fun ib j4 j5 hf _=>ret ib acc 0 j4 j5 hf (by rw [hE]) (by rw [hE])) _ _
 have hNL:∀ {af:St},Fz U af->∀ {o:Nat},af.live o=none->NK U o:=fun hf o ho=>hf.nk ho
 refine Bb (n:=n) (en:=(n:Int)+x.size)
  (fun o ks af=>(af.box bn=some [.int .i64 (n:Nat)]/\af.box be=some [.int .i64 ((n:Int)+x.size)]/\af.box bt=some [v])/\(af.box b2=some [v]/\af.box b4=some [.str []]/\af.box b5=some [.int .i64 0])/\NK U o/\∃ acc,Bu U af b7 acc/\acc.length <= 2501 * ks.length/\ik s.kids []=ik (s.kids.drop ks.length) acc)
  (fun o af=>NK U o/\Fz U af/\∃ e,af.box b4=some [.str []]/\af.box b5=some [.int .i64 e]/\ik s.kids []=([],e)) hv.s (by omega) (by omega) (by omega)
  (fun o ks af hI=>hI.1) (fun o ks af L0 L' hI ho=>?_) (fun o af L0 L' hJ ho=>?_) (fun ks fI y af o L1 q hI hy aM acG hnk jQ pF jc NQ UZ=>?_) (fun ks af o L0 iq hI Ev=>?_) (fun af o L0 hJ Ev=>?_) (fun o L0 ho=>?_)
 . obtain ⟨⟨i1,i2,i3⟩,⟨j2,j4,j5⟩,hn,acc,tu,hl,he⟩:=hI
   have kb:∀ {c y},af.box c=some y->(af.set o (.loop L')).box c=some y:=fun h=>by rw [bf (bV h ho)]; exact h
   exact ⟨⟨kb i1,kb i2,kb i3⟩,⟨kb j2,kb j4,kb j5⟩,hn,acc,tu.ir hn ho fun c hc=>by rw [dy,if_neg hc],hl,he⟩
 . obtain ⟨hn,hf,e,j4,j5,he⟩:=hJ
   have kb:∀ {c y},af.box c=some y->(af.set o (.loop L')).box c=some y:=fun h=>by rw [bf (bV h ho)]; exact h
   exact ⟨hn,hf.C6 hn,e,kb j4,kb j5,he⟩
 . obtain ⟨⟨i1,i2,i3⟩,⟨j2,j4,j5⟩,hn,acc,tu,hl,he⟩:=hI
   rw [Ka] at pF
   obtain ⟨r,hr⟩:=pF
   have tC:(aX (n+1) s.kids)[ks.length]?=some fI:=by rw [hr]; simp
   obtain ⟨u,hu,CD⟩:=lA hs.kids tC
   have hum:=fl hu
   obtain ⟨uk1,uok⟩:=iq u hum
   have hut:=Tre.zi hum
   have wO:s.kids.drop ks.length=u::s.kids.drop (ks.length+1):=by
    rw [fU (de.1 hu).1,(de.1 hu).2]
   have afQ:ks.length < s.kids.length:=(de.1 hu).1
   rw [wO,xN] at he
   refine mX j2 (Ir hv hL hz CD (by omega) uok uk1 fun eW yN=>?_)
   have i1:=yN.bo i1
   have i2:=yN.bo i2
   have i3:=yN.bo i3
   have j2:=yN.bo j2
   have j4:=yN.bo j4
   have j5:=yN.bo j5
   have tu:=tu.mono yN
   have jc:=yN.loop jc
   simp only [bL,bH,List.drop,bN]
   refine IL ?_
   by_cases qf:(dG u.pr).2=0
   . simp only [qf,bZ,cn]
     refine bO ?_
     rw [if_neg (by simp [qf])] at he
     obtain ⟨t1,t2,t3⟩:=FC qf
     have hlen:((dG u.pr).1).length <= 2500:=by rw [t1]; exact t3
     rw [jS]
     refine ⟨by simp [mW]; omega,?_⟩
     refine Em (by simp [mW]) tu (by simp [mW]; omega) fun yy oU Zx f6=>?_
     refine NQ oU ⟨⟨f6.bo n7n.symm i1,f6.bo n7e.symm i2,f6.bo n7t.symm i3⟩,⟨f6.bo n27 j2,f6.bo Vd j4,f6.bo n57 j5⟩,hn,_,Zx,?_,?_⟩ (hz _ _ hy) (f6.loop ?_ jc)
     . simp [mW]; omega
     . rw [he,cZ,List.length_singleton]
       congr 1
       simp [mW]
     . rintro rfl
       rcases tu.at_ with ⟨_,h' | h'⟩ | ⟨_,τ,h',_⟩
       . unfold St.loop at jc; rw [h'] at jc; cases jc
       . exact bV h' jc rfl
       . exact bV h' jc rfl
   . simp only [qf,cE,dx]
     refine ca ?_
     rw [if_pos qf] at he
     refine put eW [] [] 0 _ _ j4 j5 tu.fz (fun ib k4 k5 hf pT=>?_) _ _
     refine UZ ib ⟨hn,hf,_,k4,k5,he⟩ ?_
     rw [fT (pT o (bV j4 jc).symm (bV j5 jc).symm)]; exact jc
 . obtain ⟨⟨i1,i2,i3⟩,⟨j2,j4,j5⟩,hn,acc,tu,hl,he⟩:=hI
   have kb:∀ {c y},af.box c=some y->(af.del o).box c=some y:=fun h=>by rw [jv (bV h Ev)]; exact h
   rw [Ka] at iq
   have hlen:ks.length=s.kids.length:=by rw [iq,fx]
   rw [hlen,List.drop_length] at he
   exact fin _ acc (kb j4) (kb j5) (tu.ir hn Ev fun c hc=>by rw [kD,if_neg hc]) he
 . obtain ⟨hn,hf,e,j4,j5,he⟩:=hJ
   have kb:∀ {c y},af.box c=some y->(af.del o).box c=some y:=fun h=>by rw [jv (bV h Ev)]; exact h
   exact ret _ [] e (kb j4) (kb j5) (hf.ir hn fun c hc=>by rw [kD,if_neg hc]) (by rw [he]) (by rw [he])
 . have e:=bE ho (x:=.loop L0)
   exact ⟨⟨e.bo q1,e.bo q2,e.bo q3⟩,⟨e.bo m2,e.bo m4,e.bo m5⟩,hB.fz.nk ho.1,[],hB.mono (.tM e),by simp,by simp⟩
end
end Go.Rip
namespace Go.Rip
open Go.Proofs Go.RowKit
section
variable {U:St} {R:cO->St->Prop} {v:AV} {l:List Nd} {p:Int} {g:FuncId} {fs cs:List AV}
theorem aaW (hv:Sl v l) (hl:l.length <= 10000) (jh:∀ x ∈ l,x.text.length <= 3000) (hg:gj K.P g=true)
 (h0:jk l p ≠ 0->∀ af,dD U af->R (.ret (.aG [.str [],.int .i64 (jk l p)])) af)
 (h1:jk l p=0->∀ af,dD U af->ag K g (fs++[.agg [v]]++cs) af (Us R (.str []))):ag K 62 [.agg [v],.int .i64 p,.func (.func g) fs cs] U R:=by
 refine TB ?_
 unfold Vv
 rw [fg rfl]
 intro b1 gl
 have m1:(U.new b1 (.box (aC (.agg [v])))).box b1=some [v]:=aS
 have e1:=bE gl (x:=.box (aC (.agg [v])))
 generalize U.new b1 _=aQ at *
 refine mX m1 ((Cd hv.s hv.c hl jh).go ?_)
 rw [cg,al]
 by_cases hc:gY l=0
 rotate_left
 . simp only [hc,cE,dx]
   refine ca (aj.mk ?_)
   rw [<- th (p:=p) hc]
   exact h0 (by rw [th hc]; exact hc) _ e1
 simp only [hc,bZ,cn]
 refine bO (fe (dj m1 rfl ?_))
 rw [hv.s.len,al,gX,gQ,wp_cond,al]
 refine ⟨aW (by omega) (by omega),Up ?_⟩
 simp only [dA,al]
 by_cases hp:0 <= p/\p <= (l.length:Int) - 1
 rotate_left
 . simp only [hp,cE,dx]
   refine ca (aj.mk ?_)
   have:=R7 hc hp
   rw [<- this]
   exact h0 (by rw [this]; decide) _ e1
 simp only [hp,and_self,bZ,cn]
 refine bO (mX m1 (rL [v] rfl ?_))
 rw [abq hg]
 exact Wp (h1 (Wb hc hp) _ e1)
end
noncomputable def nU (l:List Nd) (p:Int):aY × Int:=if jk l p ≠ 0 then ([],jk l p) else match xP ((l.drop p.toNat).take (fV l p.toNat)) with | some s=>mU s | none=>([],0)
theorem zS {l:List Nd} {p:Int} (h:jk l p ≠ 0):nU l p=([],jk l p):=by unfold nU; rw [if_pos h]
theorem FA {t s:Tre} {n:Nat} (h:jk t.flat n=0) (hs:cQ t.flat n s):nU t.flat n=mU s:=by
 have eH:=Ms hs
 unfold nU
 rw [if_neg (by simp [h]),dL,eH]
 obtain ⟨r,hr⟩:=hs
 rw [hr,List.take_left,FE]
theorem Mx {s:Tre} (h:(mU s).2 ≠ 0):(mU s).1=[]:=by
 have e1:∀ l:List Tx,(dG l).2 ≠ 0->(dG l).1=[]:=fun l h=>by
  unfold dG at h ⊢
  repeat' split
  all_goals first
   | rfl
   | (exfalso; simp_all)
 have e2:∀ (ts:List Tre) (acc:aY),(ik ts acc).2 ≠ 0->(ik ts acc).1=[]:=by
  intro ts
  induction ts with
  | nil=>intro acc h; unfold ik at h ⊢; split <;> simp_all
  | cons t ts ih =>
    intro acc h
    rw [xN] at h ⊢
    split
    . rfl
    . rename_i h'
      rw [if_neg h'] at h
      exact ih _ h
 unfold mU at h ⊢
 split
 . rename_i h'; rw [if_pos h'] at h; exact e1 _ h
 . rename_i h'; rw [if_neg h'] at h; exact e2 _ _ h
theorem FB {v:AV} {l:List Nd} (hv:Sl v l) (hl:l.length <= 1000) (jh:∀ x ∈ l,x.text.length <= 3000) (p:Int):Pure K 28 [.agg [v],.int .i64 p] (.aG [.str (nU l p).1,.int .i64 (nU l p).2]):=by
 refine Pure.of (by simp [cK,hv.cl,show closed (.int .i64 p)=true from rfl]) rfl (fun U=>rfl) fun R hR=>?_
 refine Tt ?_
 unfold Vo
 rw [fg rfl]
 intro b1 gl
 have m1:((bJ ⟨.e,0⟩).new b1 (.box (aC (.agg [v])))).box b1=some [v]:=aS
 generalize (bJ _).new b1 _=aw at *
 rw [fg rfl]
 intro b2 mD
 have m2:(aw.new b2 (.box (aC (.int .i64 p)))).box b2=some [.int .i64 p]:=aS
 have m1:=(bE mD (x:=.box (aC (.int .i64 p)))).bo m1
 generalize aw.new b2 (.box (aC (.int .i64 p)))=aQ at *
 refine mX m1 (dj m2 rfl ?_)
 have fin:∀ (x:aY) (e:Int) (af:St),x=(nU l p).1->e=(nU l p).2->aq (fun v9 U=>(aV v9 0).wp K U (fun v10 U=>(aV v9 1).wp K U (fun v11 U=>aj R (AV.aG [v10,v11]) U) (aa R)) (aa R)) (aa R) (.ret (.aG [.str x,.int .i64 e])) af:=by
  intro x e af hx he
  subst hx he
  simp only [bL,bH,List.drop,bN]
  exact aj.mk (hR _)
 refine aaW (fs:=[]) (cs:=[.box b2 0]) hv (by omega) jh (by kernel_rfl) (fun ha bg e2=>?_) (fun ha bg e2=>?_)
 . exact fin _ _ _ (by rw [zS ha]) (by rw [zS ha])
 have m2:=e2.bo m2
 obtain ⟨n,t,s,rfl,rfl,h1,h2,h3,hs⟩:=Ej ha
 have hS:=FA ha hs
 have hle:=hs.le
 have EE:t.flat.length <= 900:=by
  refine Nat.le_of_not_lt fun h'=>?_
  have:jk t.flat n ≠ 0:=by
   have hc:gY t.flat=5:=by unfold gY; rw [if_pos h']
   rw [th (by rw [hc]; decide),hc]; decide
  exact this ha
 have cS:s.ok=true:=by
  obtain ⟨s',eE,Hq⟩:=wo _ [t] 0 (gE _) (show oV t.flat 0 [t] from ⟨[],by simp⟩) n (by omega) (by simpa using h3)
  rw [hs.inj eE]
  exact Hq (by simp [h2])
 have hz:∀ (i:Nat) (y:Nd),t.flat[i]?=some y->y.size <= 100000:=fun i y hy=>by have:=Lj.2.2 i y hy; omega
 have key:∀ Rt:cO->St->Prop,(∀ af,Rt (.ret (.aG [.str (mU s).1,.int .i64 (mU s).2])) af)->ag K 63 [.agg [v],.box b2 0] bg Rt:=by
  intro Rt UE
  refine TC ?_
  unfold Vw
  rw [fg rfl]
  intro b3 pc
  have m3:(bg.new b3 (.box (aC (.agg [v])))).box b3=some [v]:=aS
  have m2:=(bE pc (x:=.box (aC (.agg [v])))).bo m2
  generalize bg.new b3 _=cz at *
  refine mX m3 (dj m2 rfl ?_)
  by_cases hk:s.kind=1
  . have:mU s=ik s.kids []:=by unfold mU; rw [if_neg (by simp [hk])]
    rw [this] at UE
    refine TZ hv hl hz hs (by omega) cS hk fun af _=>?_
    simp only [bL,bH,List.drop,bN]
    exact aj.mk (UE _)
  . have:mU s=dG s.pr:=by unfold mU; rw [if_pos hk]
    rw [this] at UE
    refine Ir hv hl hz hs (by omega) cS hk fun af _=>?_
    simp only [bL,bH,List.drop,bN]
    exact aj.mk (UE _)
 refine key _ fun af=>⟨_,_,rfl,fun cV=>fin _ _ _ ?_ (by rw [hS]),fun he=>fin _ _ _ (by rw [hS]) (by rw [hS,he])⟩
 rw [hS,Mx cV]
theorem Md {v:AV} {l:List Nd} (hv:Sl v l) (hl:l.length <= 1000) (jh:∀ x ∈ l,x.text.length <= 3000):Pure K 25 [.agg [v]] (.aG [.str (nU l 0).1,.int .i64 (nU l 0).2]):=by
 refine Pure.of (by simp [cK,hv.cl]) rfl (fun U=>rfl) fun R hR=>?_
 refine Tq ?_
 unfold Vl
 rw [fg rfl]
 intro b1 gl
 have m1:((bJ ⟨.e,0⟩).new b1 (.box (aC (.agg [v])))).box b1=some [v]:=aS
 generalize (bJ _).new b1 _=aw at *
 refine mX m1 ((FB hv hl jh 0).go ?_)
 simp only [bH,List.drop,bN]
 exact aj.mk (hR _)
end Go.Rip
namespace Go.Rip
theorem M5 {l:List Nd} (h:gY l=0):∃ t:Tre,l=t.flat/\t.kind=1/\t.ok=true/\t.flat.length <= 900/\t.deep <= 60/\t.kids.length <= 24:=by
 have h9:¬ 900 < l.length:=fun h'=>by unfold gY at h; rw [if_pos h'] at h; cases h
 have:∃ t:Tre,l=t.flat/\t.kind=1/\t.ok=true:=Classical.not_not.1 fun h'=>by rw [wI h9 h'] at h; cases h
 obtain ⟨t,rfl,h1,h2⟩:=this
 refine ⟨t,rfl,h1,h2,by omega,?_⟩
 rw [yI t h9] at h
 unfold sg at h
 rw [if_neg (by simp [h1,h2])] at h
 refine ⟨Nat.le_of_not_lt fun h'=>?_,Nat.le_of_not_lt fun h'=>?_⟩
 . rw [if_pos (.inl h')] at h; cases h
 . rw [if_pos (.inr h')] at h; cases h
theorem OO {t:Tre} (h1:t.kind=1) (h2:t.ok=true) (h9:t.flat.length <= 900):(∀ c ∈ t.kids,c.ok=true/\ki c.kind=true/\c.flat.length <= 900)/\∃ a,t=.mk 1 [] 0 0 a t.kids:=by
 cases t with
 | mk k x n m a ks =>
   obtain rfl:k=1:=h1
   obtain ⟨f,hf,g1,g2,g3⟩:=Tre.xm h2
   obtain rfl:(⟨false,false,false,[⟨.item,0,900⟩]⟩:fQ)=f:=by simpa [bw] using hf
   obtain ⟨f1,_,_,_,f5,f6⟩:=oc g1
   obtain rfl:=f1 rfl
   obtain rfl:=f5 rfl
   obtain rfl:=f6 rfl
   obtain ⟨_,hc⟩:=F6 g2
   have hlen:(Tre.bQ ks).length+1=(Tre.mk 1 [] 0 0 a ks).flat.length:=by rw [Tre.fY]; simp
   exact ⟨fun c yh=>⟨g3 c yh,hc c yh,by have:=Tre.zi (ks:=ks) yh; omega⟩,a,rfl⟩
end Go.Rip
namespace Go.Rip
open Go.Proofs Go.RowKit
section
variable {gv:AV} {r:ay} {k:AV->Prop} {bt:BT} {b:Bool} {x y:Int} {i:IntKind}
theorem sA (hg:gv=.bool true) (h:aF K r k):ad K gv r k:=by rw [hg]; exact jn h
theorem aay (h:¬ y < x) (hk:k (.bool false)):aF K (ai .gtr bt b (.int i x) (.int i y)) k:=by rw [cx,ax,decide_eq_false h]; exact hk
theorem aaz (h:y < x) (hk:k (.bool true)):aF K (ai .gtr bt b (.int i x) (.int i y)) k:=by rw [cx,ax,decide_eq_true h]; exact hk
theorem zA (h:x=y) (hk:k (.bool true)):aF K (ai .eql bt b (.int i x) (.int i y)) k:=by rw [aT,ax,decide_eq_true h]; exact hk
theorem Dt {U:St} {K' Kp:AV->St->Prop} (h:x ≠ y) (hk:K' (.bool false) U):(ai .eql bt b (.int i x) (.int i y)).wp K U K' Kp:=by rw [aT,al,decide_eq_false h]; exact hk
theorem RZ {U:St} {K' Kp:AV->St->Prop} (h:x=y) (hk:K' (.bool true) U):(ai .eql bt b (.int i x) (.int i y)).wp K U K' Kp:=by rw [aT,al,decide_eq_true h]; exact hk
theorem OS {s u:aY} (h:s=u) (hk:k (.bool true)):aF K (ai .eql bt b (.str s) (.str u)) k:=by rw [fX,ax,decide_eq_true h]; exact hk
theorem B4 {U:St} {K' Kp:AV->St->Prop} {u w:AV} (hk:K' w U):(aO (.bool false) u w).wp K U K' Kp:=hk
theorem Ef {U:St} {K' Kp:AV->St->Prop} {u w:AV} (hk:K' u U):(aO (.bool true) u w).wp K U K' Kp:=hk
theorem F2 {m:AV} {L l:List AV} {b1 o n:Nat} {U:St} (hg:gv=.bool true) (hb:U.box b1=some L) (hd:L.drop (o+n)=m::l) (h:k m) :
 ad K gv (ae (some n) (.box b1 o)) fun p=>ad K gv (ah (some (false,1)) p U) k:=by
 subst hg
 simp only [aB,bq]
 exact hU (dz hb hd h)
end
end Go.Rip
