/- Lemmas for the proof: no conditions. -/
import Derived.Test.YtnfpmiiopiinbaaGreatDoorRipZz
import Derived.Test.YtnfpmiiopiinbaaGreatDoorRipYh
import Derived.Test.YtnfpmiiopiinbaaGreatDoorRipYf
import Derived.Test.YtnfpmiiopiinbaaGreatDoorRipE
import Derived.Test.YtnfpmiiopiinbaaGreatDoorRipP
import Derived.Test.YtnfpmiiopiinbaaGreatDoorRipYc
import Derived.Test.YtnfpmiiopiinbaaGreatDoorRipF
import Derived.Test.YtnfpmiiopiinbaaGreatDoorRipYb
import Derived.Test.YtnfpmiiopiinbaaGreatDoorRipX
import Derived.Test.YtnfpmiiopiinbaaGreatDoorRipAw
set_option linter.unusedVariables false
set_option linter.unusedSimpArgs false
set_option linter.loopingSimpArgs false
namespace Go.Rip
open Go.Proofs Go.RowKit
theorem wm {x:Tx} (h:qN x):x.2.length <= 12:=by
 have key:∀ w ∈ lH++nZ,w.length <= 12:=by decide
 rcases tB h.2 with k | k | k | k
 . exact k.2.2.1
 . have:=DN h.1 (G2 (by rw [h.2,k.1]) h.1); omega
 . exact key _ (List.mem_append_left _ k.2)
 . exact key _ (List.mem_append_right _ k.2)
def xi (s:aQ):List AV:=s.map fun c=>.int .u8 c.toNat
def Fz (U ad:St):Prop:=∀ c x,U.live c=some x->(∀ t,x=.tok t->t.e ≠ 51)->ad.live c=some x
def CX (b:Nat) (U ad:St):Prop:=∀ c x,c ≠ b->U.live c=some x->(∀ t,x ≠ .tok t)->ad.live c=some x
section
variable {b c:Nat} {U ao aP ad:St} {s t:aQ} {R:cA->St->Prop}
theorem Fz.refl (U:St):Fz U U:=fun _ _ h _=>h
theorem Fz.trans (h:Fz U aP) (k:Fz aP ad):Fz U ad:=fun c x e t=>k c x (h c x e t) t
theorem Fz.kr (h:cN U ad):Fz U ad:=fun c x e _=>h c x e
theorem Fz.fr (h:Fz U ad):CX b U ad:=fun c x _ e t=>h c x e fun t' e'=>absurd e' (t t')
theorem CX.aS (h:CX b U ad) (n:c ≠ b) {y:List AV} (k:U.box c=some y):ad.box c=some y:=by
 cases e:U.live c with
 | none=>simp [St.box,e] at k
 | some x =>
   rw [dP ((h c x n e ?_).trans e.symm)]; exact k
   intro t ht
   subst ht
   simp [St.box,e] at k
theorem CX.loop (h:CX b U ad) (n:c ≠ b) {L:eG} (k:U.loop c=some L):ad.loop c=some L:=by
 cases e:U.live c with
 | none=>simp [St.loop,e] at k
 | some x =>
   rw [dG ((h c x n e ?_).trans e.symm)]; exact k
   intro t ht
   subst ht
   simp [St.loop,e] at k
theorem Fz.aS (h:Fz U ad) {y:List AV} (k:U.box c=some y):ad.box c=some y:=(h.fr (b:=c+1)).aS (by omega) k
theorem Fz.loop (h:Fz U ad) {L:eG} (k:U.loop c=some L):ad.loop c=some L:=(h.fr (b:=c+1)).loop (by omega) k
theorem Fz.tok (h:Fz U ad) {t:Tok} (ht:t.e ≠ 51) (k:U.tok c=some t):ad.tok c=some t:=by
 cases e:U.live c with
 | none=>simp [St.tok,e] at k
 | some x =>
   rw [jB ((h c x e ?_).trans e.symm)]; exact k
   intro t' o3
   subst o3
   simp [St.tok,e] at k
   subst k
   exact ht
def NK (ao:St) (c:Nat):Prop:=∀ x,ao.live c=some x->∃ t,x=.tok t/\t.e=51
theorem NK.of (h:ao.live c=none):NK ao c:=fun x e=>by rw [h] at e; cases e
theorem Fz.nk (h:Fz ao U) (k:U.live c=none):NK ao c:=fun x e=>by
 refine Classical.not_not.1 fun hn=>?_
 have:=h c x e fun t ht e51=>hn ⟨t,ht,e51⟩
 rw [k] at this; cases this
theorem NK.ne {d:Nat} {x:Live} (h:NK ao c) (e:ao.live d=some x) (ht:∀ t,x=.tok t->t.e ≠ 51):d ≠ c:=by
 rintro rfl
 obtain ⟨t,h1,h2⟩:=h x e
 exact ht t h1 h2
theorem Fz.gx {aZ:St} (h:Fz ao U) (n:NK ao c) (hs:∀ d,d ≠ c->aZ.live d=U.live d):Fz ao aZ:=fun d x e ht=>by
 rw [hs d (n.ne e ht)]; exact h d x e ht
structure Bu (ao U:St) (b:Nat) (s:aQ):Prop where
 at_:(s=[]/\(U.live b=some (.ri 158 [.aV,.aw])\/U.box b=some [.box b 0,.aw]))\/(s ≠ []/\∃ τ,U.box b=some [.box b 0,.vec s.length (.own τ) (xi s)]/\U.tok τ=some ⟨s.length,5,1⟩/\NK ao τ)
 new:NK ao b
 fz:Fz ao U
theorem Bu.mono (h:Bu ao U b s) (e:Fz U ad):Bu ao ad b s:=by
 refine ⟨?_,h.new,h.fz.trans e⟩
 rcases h.at_ with ⟨h0,h | h⟩ | ⟨h0,τ,h,k,k2⟩
 . exact .inl ⟨h0,.inl (e _ _ h fun t e=>by cases e)⟩
 . exact .inl ⟨h0,.inr (e.aS h)⟩
 . exact .inr ⟨h0,τ,e.aS h,e.tok (show (5:Nat) ≠ 51 by decide) k,k2⟩
theorem Bu.gx {o:Nat} {z:eG} {aZ:St} (h:Bu ao U b s) (hn:NK ao o) (ho:U.loop o=some z) (hs:∀ c,c ≠ o->aZ.live c=U.live c):Bu ao aZ b s:=by
 have XK:b ≠ o:=by
  rintro rfl
  rcases h.at_ with ⟨_,h | h⟩ | ⟨_,τ,h,_⟩
  . unfold St.loop at ho; rw [h] at ho; cases ho
  . exact aX h ho rfl
  . exact aX h ho rfl
 refine ⟨?_,h.new,h.fz.gx hn hs⟩
 rcases h.at_ with ⟨h0,h | h⟩ | ⟨h0,τ,h,k,k2⟩
 . exact .inl ⟨h0,.inl (by rw [hs b XK]; exact h)⟩
 . exact .inl ⟨h0,.inr (by rw [dP (hs b XK)]; exact h)⟩
 . exact .inr ⟨h0,τ,by rw [dP (hs b XK)]; exact h,by rw [jB (hs τ (oz k ho))]; exact k,k2⟩
def Sz (ao:St) (v:AV):Prop:=∀ n τ l,v=.vec n (.own τ) l->NK ao τ
theorem E6 {K':AV->St->Prop} {Kp:AV->St->Prop} (h:Bu ao U b s) (hk:∀ ad v,(∀ c,c ≠ b->ad.live c=U.live c)->ad.box b=some [.box b 0,v]->Grow ad v 5 1 s.length (xi s)->(s.length=0->v=.aw)->Sz ao v->Fz ao ad->K' (.aF []) ad):ae K 190 [.box b 0] U (ag K' Kp):=by
 rcases h.at_ with ⟨h0,h' | h'⟩ | ⟨h0,τ,h',k,k2⟩
 . subst h0
   exact sQ h' (hk _ _ (fun c hc=>yi hc) aW (.inl ⟨rfl,rfl,rfl⟩) (fun _=>rfl) (fun _ _ _ e=>by cases e) (h.fz.gx h.new fun c hc=>yi hc))
 . subst h0
   exact p5 h' (hk U _ (fun c _=>rfl) h' (.inl ⟨rfl,rfl,rfl⟩) (fun _=>rfl) (fun _ _ _ e=>by cases e) h.fz)
 . refine p5 h' (hk U _ (fun c _=>rfl) h' (.inr ⟨τ,rfl,k,by simp [xi]⟩) (fun e=>absurd (qS.1 e) h0) (fun _ _ _ e=>?_) h.fz)
   simp only [AV.vec.injEq,j9.own.injEq] at e
   rw [<- e.2.1]; exact k2
theorem Lx {y v:AV} {K':AV->St->Prop} {Kp:AV->St->Prop} (ht:t ≠ []) (hy:pO U y=some (t.length,xi t)) (hb:U.box b=some [.box b 0,v]) (hg:Grow U v 5 1 s.length (xi s)) (h0:s.length=0->v=.aw) (hl:s.length+t.length <= 4294967296) (hn:Sz ao v) (hf:Fz ao U)
 (hk:∀ aP v',Grow aP v' 5 1 (s++t).length (xi (s++t))->aP.box b=some [.box b 0,v]->(∀ c x,U.live c=some x->(∀ t,x ≠ .tok t)->aP.live c=some x)->Sz ao v'->Fz ao aP->K' v' aP):(ez (some (5,1)) false v y U).wp K U K' Kp:=by
 have sZ:0 < t.length:=List.length_pos_iff.2 ht
 refine EF hg hy (by simp [xi]) sZ hl h0 fun aP v' g e1 n1=>?_
 have kQ:∀ c x,U.live c=some x->(∀ t,x ≠ .tok t)->aP.live c=some x:=fun c x hx wP=>e1 c x (fun n l hv=>by
  rcases hg with ⟨_,_,g⟩ | ⟨τ,g,o3,_⟩
  . rw [g] at hv; cases hv
  . rw [g] at hv; cases hv
    unfold St.tok at o3
    rw [hx] at o3
    split at o3
    . rename_i t' e'; cases e'; exact wP _ rfl
    . cases o3) hx
 refine hk aP v' (by rw [dh]; simpa [xi] using g) ((lA hg e1).1 hb) kQ (fun n τ l hv=>?_) fun c x hx wP=>?_
 . rcases n1 n τ l hv with hz | ⟨n2,l2,hv2⟩
   . exact hf.nk hz
   . exact hn _ _ _ hv2
 . exact e1 c x (fun n l hv=>(hn _ _ _ hv).ne hx wP rfl) (hf c x hx wP)
theorem E8 {v v':AV} {K':AV->St->Prop} {Kp:AV->St->Prop} (hs:s ≠ []) (hb:U.box b=some [.box b 0,v]) (g:Grow U v' 5 1 s.length (xi s)) (hn:Sz ao v') (IA:NK ao b) (hf:Fz ao U) (hk:∀ aP,Bu ao aP b s->(∀ c,c ≠ b->aP.live c=U.live c)->K' (.aF []) aP):(aJ (some (false,1)) (.box b 1) v' U).wp K U K' Kp:=by
 rcases g with ⟨h0,_,_⟩ | ⟨τ,rfl,r2,r3⟩
 . exact absurd (qS.1 h0) hs
 rw [cX hb]
 have o1:∀ c,c ≠ b->(U.set b (.box (aB [.box b 0,v] 1 (au (.vec s.length (.own τ) (xi s)))))).live c=U.live c:=fun c hc=>by rw [cR,if_neg hc]
 exact ⟨⟨rfl,rfl,by simp⟩,hk _ ⟨.inr ⟨hs,τ,by rw [aW]; rfl,by rw [fx (dL hb r2).symm]; exact r2,hn _ _ _ rfl⟩,IA,hf.gx IA o1⟩ o1⟩
theorem Vx (t:aQ):pO U (.str t)=some (t.length,xi t):=rfl
theorem C3 {K':AV->St->Prop} {Kp:AV->St->Prop} (ht:t ≠ []) (h:Bu ao U b s) (hl:s.length+t.length <= 100000000) (hk:∀ y ad,Bu ao ad b (s++t)->CX b U ad->K' y ad):ae K 125 [.box b 0,.str t] U (ag K' Kp):=by
 refine N0 ?_
 unfold NZ
 refine E6 h fun aP v o1 hb hg h0 hn hf=>?_
 simp only [bU,al]
 refine fV (dq hb rfl ?_)
 refine Lx ht (Vx t) hb hg h0 (by omega) hn hf fun aZ v' g2 fY fD wO FE=>fV ?_
 refine E8 (s:=s++t) (by simp [ht]) fY g2 wO h.new FE fun bZ h3 Q1=>?_
 show (cj (some true) (AV.str t)).wp K bZ _ _
 rw [show cj (some true) (AV.str t)=.val (.int .i64 t.length) from rfl,al]
 refine ak.mk (hk _ _ h3 fun c x hc hx wP=>?_)
 rw [Q1 c hc]
 exact fD c x (by rw [o1 c hc]; exact hx) wP
theorem Uv {c:UInt8} {K':AV->St->Prop} {Kp:AV->St->Prop} (h:Bu ao U b s) (hl:s.length <= 100000) (hk:∀ y ad,Bu ao ad b (s++[c])->CX b U ad->K' y ad):ae K 189 [.box b 0,.int .u8 c.toNat] U (ag K' Kp):=by
 refine OZ ?_
 unfold OY
 refine E6 h fun aP v o1 hb hg h0 hn hf=>?_
 simp only [bU,al]
 refine fV (dq hb rfl ?_)
 refine EG rfl rfl ?_
 refine Lx (t:=[c]) (by simp) rfl hb hg h0 (by simp; omega) hn hf fun aZ v' g2 fY fD wO FE=>fV ?_
 refine E8 (s:=s++[c]) (by simp) fY g2 wO h.new FE fun bZ h3 Q1=>?_
 refine ak.mk (hk _ _ h3 fun c x hc hx wP=>?_)
 rw [Q1 c hc]
 exact fD c x (by rw [o1 c hc]; exact hx) wP
theorem Lv {K':AV->St->Prop} {Kp:AV->St->Prop} (h:Bu ao U b s) (hk:K' (.int .i64 s.length) U):ae K 126 [.box b 0] U (ag K' Kp):=by
 refine N2 ?_
 unfold N1
 simp only [bU,al]
 rcases h.at_ with ⟨h0,h'⟩ | ⟨h0,τ,h',k,_⟩
 . subst h0
   obtain ⟨x,hx⟩:∃ x,U.box b=some [x,.aw]:=by
    rcases h' with h | h
    . exact ⟨.aV,by simp [St.box,h]⟩
    . exact ⟨_,h⟩
   refine fV (dq hx rfl ?_)
   exact ak.mk hk
 . refine fV (dq h' rfl ?_)
   exact ak.mk hk
theorem Lw {K':AV->St->Prop} {Kp:AV->St->Prop} (h:Bu ao U b s) (hk:∀ ad,CX b U ad->Fz ao ad->K' (.str s) ad):ae K 127 [.box b 0] U (ag K' Kp):=by
 rcases h.at_ with ⟨h0,h'⟩ | ⟨h0,τ,h',k,k2⟩
 . subst h0
   obtain ⟨x,hx⟩:∃ x,U.box b=some [x,.aw]:=by
    rcases h' with h | h
    . exact ⟨.aV,by simp [St.box,h]⟩
    . exact ⟨_,h⟩
   exact qB hx (hk U (fun c x _ hx _=>hx) h.fz)
 . refine uv h0 h' k (hk _ (fun c x _ hx wP=>?_) (h.fz.gx k2 fun c hc=>by rw [jd,if_neg hc]))
   rw [jd,if_neg]
   . exact hx
   . rintro rfl
     unfold St.tok at k
     rw [hx] at k
     split at k
     . rename_i t' e'; cases e'; exact wP _ rfl
     . cases k
end
theorem G8 {x:Tx} (h:qN x):Pure K 156 [.agg (iU x)] (.bool true):=by
 have hs:=wm h
 refine Pure.of rfl rfl (fun U=>rfl) fun R hR=>?_
 refine Oo ?_
 unfold On
 rw [er rfl]
 intro b1 fX
 have m1:((bC ⟨.e,0⟩).new b1 (.box (au (.agg (iU x))))).box b1=some (iU x):=aK
 generalize (bC _).new b1 _=ao at *
 refine fV (dq m1 rfl ((AO x.2 (by omega)).go ?_))
 rw [h.2]
 simp only [G3,bB,List.drop,bE]
 rw [cS]
 intro b3 jn
 have m3:(ao.new b3 (.box [AV.int .u8 0,AV.str [],AV.int .i64 0])).box b3=some [AV.int .u8 0,AV.str [],AV.int .i64 0]:=aK
 have n13:=jn.bK m1
 have m1:=(a7 jn (x:=.box [AV.int .u8 0,AV.str [],AV.int .i64 0])).aS m1
 generalize ao.new b3 _=aP at *
 rw [cX m3]
 refine ⟨⟨rfl,rfl,by simp⟩,?_⟩
 have m3:(aP.set b3 (.box (aB [AV.int .u8 0,AV.str [],AV.int .i64 0] 0 (au (.agg [.int .u8 x.1,.str x.2,.int .i64 0]))))).box b3=some (iU x):=by rw [aW]; rfl
 have m1:(aP.set b3 (.box (aB [AV.int .u8 0,AV.str [],AV.int .i64 0] 0 (au (.agg [.int .u8 x.1,.str x.2,.int .i64 0]))))).box b1=some (iU x):=by rw [aN n13]; exact m1
 generalize aP.set b3 _=aZ at *
 simp only [bj,al,da,aU,gm,aI,bQ]
 refine gV (dX m3 rfl (gV (dX m1 rfl ?_)))
 simp only [bj,aC,da,aL,if_true,al,aU,gm,aI,bQ]
 refine gV (dX m3 rfl (gV (dX m1 rfl ?_)))
 simp only [ix,aC,da,aL,if_true,al]
 exact ak.mk (hR _)
theorem Jn (a b:Tx):Pure K 188 [.agg (iU a),.agg (iU b)] (.bool (qy a b)):=by
 refine Pure.of rfl rfl (fun U=>rfl) fun R hR=>?_
 refine OX ?_
 unfold OW
 rw [er rfl]
 intro b2 fY
 have m2:((bC ⟨.e,0⟩).new b2 (.box (au (.agg (iU a))))).box b2=some (iU a):=aK
 generalize (bC _).new b2 _=ao at *
 rw [er rfl]
 intro b3 jn
 have m3:(ao.new b3 (.box (au (.agg (iU b))))).box b3=some (iU b):=aK
 have m2:=(a7 jn (x:=.box (au (.agg (iU b))))).aS m2
 generalize ao.new b3 _=aP at *
 have e1:∀ n:Nat,decide ((n:Int)=4)=(n == 4):=fun n=>by
  rw [nY,dI,beq_iff_eq]; omega
 refine fV (dq m2 rfl ?_)
 rw [c6,al,e1]
 have Dd:=hR
 unfold qy at Dd
 have rest:(a.1 != 4 && b.1 != 4)=false->(af (some 1) (.box b2 0)).wp K aP (fun cb U =>
  (ah (some (false,1)) cb U).wp K U (fun ct U =>
  (ar .eql (BT.mk false false false none false) true ct (AV.str gX)).wp K U (fun bM U =>
  ai K (aH bM true) (af (some 1) (.box b3 0)) (fun cZ =>
  ai K (aH bM true) (ah (some (false,1)) cZ U) (fun cm =>
  ai K (aH bM true) (ar .eql (BT.mk false false false none false) true cm (AV.str lS)) (fun cL =>
  (bp bM cL (AV.bool false)).wp K U (fun v20 U =>
  ak R v20 U) (aa R))))) (aa R)) (aa R)) (aa R):=by
  intro h0
  rw [h0,Bool.false_or] at Dd
  have e2:∀ s t:aQ,decide (s=t)=(s == t):=fun s t=>by
   by_cases h:s=t <;> simp [h]
  refine fV (dq m2 rfl ?_)
  rw [ix,al,e2]
  cases h1:(a.2 == gX) with
  | true =>
    simp only [aU,gm,aI,bQ]
    refine gV (dX m3 rfl ?_)
    rw [ix,aC,e2]
    simp only [aL,if_true,al]
    rw [h1,Bool.true_and] at Dd
    exact ak.mk (Dd _)
  | false =>
    simp only [aU,show (false == true)=false from rfl,aI,bV,aL,bJ,if_false,al]
    rw [h1,Bool.false_and] at Dd
    exact ak.mk (Dd _)
 cases h1:(a.1 == 4) with
 | true =>
   simp only [cI,aU,show (false == true)=false from rfl,aI,bV,aL,bJ,if_false,al]
   exact cO (rest (by simp only [bne,h1,cI,Bool.false_and]))
 | false =>
   simp only [eA,aU,gm,aI,bQ]
   refine gV (dX m3 rfl ?_)
   rw [c6,aC,e1]
   simp only [aL,if_true,al]
   cases h2:(b.1 == 4) with
   | true=>exact cO (rest (by simp only [bne,h1,h2,cI,eA,Bool.and_false]))
   | false =>
     refine df (ak.mk ?_)
     have:(a.1 != 4 && b.1 != 4)=true:=by simp only [bne,h1,h2,eA,Bool.and_self]
     rw [this,Bool.true_or] at Dd
     exact Dd _
section
variable {U ad:St} {vl:AV} {l:List Tx} {R:cA->St->Prop}
theorem PY (l:List Tx) (i:Nat):(lQ l).drop (i * 3)=lQ (l.drop i):=by
 induction l generalizing i with
 | nil=>simp [lQ]
 | cons t l ih =>
   cases i with
   | zero=>simp
   | succ i =>
     rw [Nat.add_mul,show i * 3+1 * 3=3+i * 3 by omega,<- List.drop_drop,List.drop_succ_cons,<- ih]
     rfl
theorem Jf {i:Nat} {x:Tx} (h:l[i]?=some x):∃ r,(lQ l).drop (i * 3)=iU x++r:=by
 rw [PY,gl (c8.1 h).1]
 refine ⟨lQ (l.drop (i+1)),?_⟩
 have:=(c8.1 h).2
 simp [lQ,this]
theorem aag {i:Nat} {x:Tx} {K':AV->St->Prop} {Kp:AV->St->Prop} (hv:dA vl l.length (lQ l)) (hx:l[i]?=some x) (hk:K' (.agg (iU x)) U) :
 (aG (some (51,3)) none vl (.int .i64 (i:Nat))).wp K U (fun p U=>(ah (some (true,3)) p U).wp K U K' Kp) Kp:=by
 have aO:=(c8.1 hx).1
 obtain ⟨r,hr⟩:=Jf hx
 rcases hv with ⟨h1,_,_⟩ | ⟨c,rfl⟩
 . omega
 . rw [CU,gb,hr]
   refine ⟨by omega,?_⟩
   rw [vb]
   exact ⟨by simp [iU],hk⟩
theorem adL {i:Nat} {x:Tx} {k:AV->Prop} (hv:dA vl l.length (lQ l)) (hx:l[i]?=some x) (hk:k (.agg (iU x))) :
 ax K (aG (some (51,3)) none vl (.int .i64 (i:Nat))) fun p=>ax K (ah (some (true,3)) p U) k:=by
 have aO:=(c8.1 hx).1
 obtain ⟨r,hr⟩:=Jf hx
 rcases hv with ⟨h1,_,_⟩ | ⟨c,rfl⟩
 . omega
 . rw [KJ,gb,hr]
   refine ⟨by omega,?_⟩
   rw [Jb]
   exact ⟨by simp [iU],hk⟩
theorem VA (hv:dA vl l.length (lQ l)) (ho:∀ x ∈ l,qN x) (hl:l.length <= 1000000) (h:∀ ad,cN U ad->R (.ret (.int .i64 (if 900 < l.length then 5 else 0))) ad):ae K 93 [vl] U R:=by
 refine R6 ?_
 unfold TZ
 rw [hv.len,al,dO,al]
 refine fI (fun h9=>?_) fun h9=>?_
 . rw [if_pos (by omega)] at h
   exact ak.mk (h _ (cN.refl U))
 rw [if_neg (by omega)] at h
 rw [al]
 refine ⟨fun m w8 w9 D7 ad=>∃ i:Nat,m=l.length - i/\i <= l.length/\w8=vl/\w9=.int .i64 l.length/\D7=.int .i64 (i:Nat)/\cN U ad,⟨_,0,rfl,by omega,rfl,rfl,rfl,cN.refl U⟩,?_⟩
 rintro m w8 w9 D7 aP ⟨i,rfl,hi,rfl,rfl,rfl,e1⟩
 rw [bP,al]
 refine fI (fun aO=>?_) fun jo=>ak.mk (h _ e1)
 have aO:i < l.length:=by omega
 obtain ⟨x,hx⟩:∃ x,l[i]?=some x:=⟨l[i],by simp [aO]⟩
 refine aag hv hx ?_
 rw [cS]
 intro b4 gu
 have m4:(aP.new b4 (.box [AV.int .u8 0,AV.str [],AV.int .i64 0])).box b4=some [AV.int .u8 0,AV.str [],AV.int .i64 0]:=aK
 have e2:=e1.new gu (x:=.box [AV.int .u8 0,AV.str [],AV.int .i64 0])
 have f4:=e1.fresh gu.1
 generalize aP.new b4 _=aZ at *
 rw [cX m4]
 refine ⟨⟨rfl,rfl,by simp [iU]⟩,?_⟩
 have m4:(aZ.set b4 (.box (aB [AV.int .u8 0,AV.str [],AV.int .i64 0] 0 (au (.agg (iU x)))))).box b4=some (iU x):=by rw [aW]; rfl
 have e3:=e2.set f4 (x:=.box (aB [AV.int .u8 0,AV.str [],AV.int .i64 0] 0 (au (.agg (iU x)))))
 generalize aZ.set b4 _=bZ at *
 rw [pQ m4]
 refine ⟨by simp [iU],(G8 (ho x (fj hx))).go ?_⟩
 simp only [dR,al,cI]
 refine cO ?_
 rw [dr]
 exact ⟨bw (by omega) (by omega),l.length - (i+1),by omega,i+1,rfl,by omega,rfl,rfl,by simp,e3⟩
theorem BP:∀ (l:List Tx) (a b:Tx),fw (l++[a,b])=fw (l++[a])++(if qy a b then [32] else [])++b.2
 | [],a,b=>by simp [fw]
 | [c],a,b=>by simp [fw]
 | c::d::l,a,b=>by
   have:=BP (d::l) a b
   simp only [ib,BO] at this ⊢
   rw [this]; simp
theorem D3:∀ (l:List Tx),(∀ x ∈ l,qN x)->(fw l).length <= 13 * l.length
 | [],_=>by simp [fw]
 | [a],h=>by have:=wm (h a (by simp)); simp [fw]; omega
 | a::b::l,h=>by
   have h1:=wm (h a (by simp))
   have h2:=D3 (b::l) fun x hx=>h x (by simp only [cD] at hx ⊢; exact .inr hx)
   rw [BO,dh,dh]
   have:(if qy a b=true then [(32:UInt8)] else []).length <= 1:=by split <;> simp
   simp only [jf] at h2 ⊢
   omega
end
end Go.Rip
namespace Go.Rip
open Go.Proofs Go.RowKit
section
variable {U ad:St} {vl:AV} {l:List Tx} {R:cA->St->Prop}
theorem Sg (hv:dA vl l.length (lQ l)) (ho:∀ x ∈ l,qN x) (hl:l.length <= 1000000) (h:∀ ad,Fz U ad->R (.ret (.aF [.str (dW l).1,.int .i64 (dW l).2])) ad):ae K 124 [vl] U R:=by
 refine NY ?_
 unfold NX
 refine VA hv ho hl fun aP e1=>?_
 rw [bu,c6,al]
 by_cases h9:900 < l.length
 . have hE:dW l=([],5):=by unfold dW; rw [if_pos h9]
   rw [if_pos h9]
   simp only [show decide ((5:Int)=0)=false from rfl,eA]
   refine df (ak.mk ?_)
   rw [hE] at h
   exact h _ (.kr e1)
 rw [if_neg h9]
 simp only [da,cI]
 refine cO ?_
 rw [ju]
 intro b5 iH
 rw [show NV.at b5 .box=AV.box b5 0 from rfl]
 have hB:Bu aP (aP.new b5 (.ri 158 [.aV,.aw])) b5 []:=⟨.inl ⟨rfl,.inl (by rw [kH,if_pos rfl])⟩,.of iH.1,.kr (a7 iH)⟩
 generalize aP.new b5 _=aZ at *
 rw [hv.len,al]
 have sZ:∀ i,(fw (l.take i)).length <= 13 * l.length:=fun i=>by
  have:=D3 (l.take i) fun x hx=>ho x (List.mem_of_mem_take hx)
  rw [List.length_take] at this; omega
 refine ⟨fun m w0 w5 D8 w14 w15 ad=>∃ i:Nat,m=l.length - i/\i <= l.length/\vl=w0/\w5=.box b5 0/\vl=D8/\w14=.int .i64 l.length/\w15=.int .i64 (i:Nat)/\Bu aP ad b5 (fw (l.take i)),⟨_,0,rfl,by omega,rfl,rfl,rfl,rfl,rfl,by simpa [fw] using hB⟩,?_⟩
 clear hB
 rintro m w0 w5 D8 w14 w15 bZ ⟨i,rfl,hi,rfl,rfl,rfl,rfl,rfl,hB⟩
 rw [bP,al]
 refine fI (fun aO=>?_) fun jo=>?_
 . have aO:i < l.length:=by omega
   obtain ⟨x,hx⟩:∃ x,l[i]?=some x:=⟨l[i],by simp [aO]⟩
   have hxo:=ho x (fj hx)
   refine aag hv hx ?_
   rw [cS]
   intro b7 kN
   have m7:(bZ.new b7 (.box [AV.int .u8 0,AV.str [],AV.int .i64 0])).box b7=some [AV.int .u8 0,AV.str [],AV.int .i64 0]:=aK
   have f7:=hB.fz.nk kN.1
   have Xz:=hB.mono (.kr (a7 kN (x:=.box [AV.int .u8 0,AV.str [],AV.int .i64 0])))
   have Tr:b7 ≠ b5:=by
    rintro rfl
    rcases hB.at_ with ⟨_,h' | h'⟩ | ⟨_,τ,h',_⟩
    . rw [kN.1] at h'; cases h'
    . exact bG h' kN.1
    . exact bG h' kN.1
   have e7:=a7 kN (x:=.box [AV.int .u8 0,AV.str [],AV.int .i64 0])
   have abb:∀ {τ:Nat} {tt:Tok},(bZ.new b7 (.box [AV.int .u8 0,AV.str [],AV.int .i64 0])).tok τ=some tt->τ ≠ b7:=fun ht=>(dL m7 ht).symm
   generalize bZ.new b7 _=cC at *
   rw [cX m7]
   refine ⟨⟨rfl,rfl,by simp [iU]⟩,?_⟩
   have To:(cC.set b7 (.box (aB [AV.int .u8 0,AV.str [],AV.int .i64 0] 0 (au (.agg (iU x)))))).box b7=some (iU x):=by rw [aW]; rfl
   have XA:Bu aP (cC.set b7 (.box (aB [AV.int .u8 0,AV.str [],AV.int .i64 0] 0 (au (.agg (iU x)))))) b5 (fw (l.take i)):=by
    have hs:∀ c,c ≠ b7->(cC.set b7 (.box (aB [AV.int .u8 0,AV.str [],AV.int .i64 0] 0 (au (.agg (iU x)))))).live c=cC.live c:=fun c hc=>by rw [cR,if_neg hc]
    refine ⟨?_,Xz.new,Xz.fz.gx f7 hs⟩
    rcases Xz.at_ with ⟨h0,h' | h'⟩ | ⟨h0,τ,h',k,k2⟩
    . exact .inl ⟨h0,.inl (by rw [hs _ Tr.symm]; exact h')⟩
    . exact .inl ⟨h0,.inr (by rw [dP (hs _ Tr.symm)]; exact h')⟩
    . exact .inr ⟨h0,τ,by rw [dP (hs _ Tr.symm)]; exact h',by rw [jB (hs τ (abb k))]; exact k,k2⟩
   generalize cC.set b7 _=dm at *
   intro j hj
   have tail:∀ (s:aQ) (ad:St),Bu aP ad b5 s->ad.box b7=some (iU x)->s++x.2=fw (l.take (i+1))->s.length <= 50000->j vl (.box b5 0) (.box b7 0) vl (.int .i64 l.length) (.int .i64 (i:Nat)) ad:=by
    intro s ad sa m7 e lf
    refine hj _ _ _ _ _ _ _ ?_
    refine fV (dq m7 rfl ?_)
    have zq:=wm hxo
    refine C3 hxo.1 sa (by omega) fun y ic acS _=>?_
    rw [dr]
    exact ⟨bw (by omega) (by omega),l.length - (i+1),by omega,i+1,rfl,by omega,rfl,rfl,rfl,rfl,by simp,by rw [<- e]; exact acS⟩
   have py:l.take (i+1)=l.take i++[x]:=by rw [qU,hx]; rfl
   have hti:=sZ i
   rw [dO,aC]
   by_cases xH:i=0
   . subst xH
     simp only [show decide ((0:Int) < ((0:Nat):Int))=false from rfl,aU,show (false == true)=false from rfl,aI,bV,aL,bJ,if_false,aC]
     refine cO (tail _ dm XA To ?_ (by simp [fw]))
     rw [py]; simp [fw]
   . obtain ⟨k,rfl⟩:∃ k,i=k+1:=⟨i - 1,by omega⟩
     obtain ⟨y,hy⟩:∃ y,l[k]?=some y:=⟨l[k]'(by omega),by simp [show k < l.length by omega]⟩
     have adq:l.take (k+1)=l.take k++[y]:=by rw [qU,hy]; rfl
     have wQ:fw (l.take (k+1+1))=fw (l.take (k+1))++(if qy y x then [32] else [])++x.2:=by
      rw [py,adq,iM]; exact BP _ _ _
     have acY:decide ((0:Int) < ((k+1:Nat):Int))=true:=decide_eq_true (by omega)
     simp only [acY,aU,gm,aI,bQ,aC]
     rw [abD]
     refine ⟨bw (by omega) (by omega),?_⟩
     have pv:(((k+1:Nat):Int) - 1)=((k:Nat):Int):=by omega
     rw [pv]
     refine adL hv hy ?_
     rw [wa To]
     refine ⟨by simp [iU],?_⟩
     rw [show ((iU x).drop 0).take 3=iU x from rfl]
     refine mr (Jn y x) ?_
     simp only [aL,if_true,aC]
     cases SJ:qy y x with
     | true =>
       refine df ?_
       rw [SJ,if_pos rfl] at wQ
       refine Uv (c:=32) XA (by omega) fun yy mi XB f6=>?_
       refine tail _ mi XB (f6.aS Tr To) wQ.symm (by simp; omega)
     | false =>
       refine cO (tail _ dm XA To ?_ (by omega))
       rw [SJ] at wQ
       rw [wQ]; simp
 . have hi:i=l.length:=by omega
   subst hi
   rw [sE] at hB
   refine Lv hB ?_
   rw [dO,al]
   refine fI (fun AT=>?_) fun AT=>?_
   . have hE:dW l=([],5):=by unfold dW; rw [if_neg h9,if_pos (by omega)]
     rw [hE] at h
     exact ak.mk (h _ ((Fz.kr e1).trans hB.fz))
   . have hE:dW l=(fw l,0):=by unfold dW; rw [if_neg h9,if_neg (by omega)]
     rw [hE] at h
     refine Lw hB fun cC _ hf=>ak.mk (h _ ((Fz.kr e1).trans hf))
end
def kS (ks:List (Int × List Tx)):Nat:=(ks.map fun y=>y.2.length+3).sum
theorem Cs {c:Prop} [Decidable c] {A B:List Tx} {n:Nat} (h1:c->A.length <= n) (h2:¬ c->B.length <= n):(if c then A else B).length <= n:=by
 split
 . exact h1 ‹_›
 . exact h2 ‹_›
theorem Ao (w:aQ):∀ (ls:List (List Tx)),(eE w ls).length <= (ls.map fun l=>l.length+1).sum
 | []=>by simp [eE]
 | [l]=>by simp [eE]
 | l::m::ls=>by
   have:=Ao w (m::ls)
   rw [eE]
   simp only [dh,jf,dV,List.sum_cons] at this ⊢
   omega
theorem CK (w:aQ) (ks:List (Int × List Tx)):(eE w (ks.map (·.2))).length <= kS ks:=by
 refine Nat.le_trans (Ao _ _) ?_
 unfold kS
 induction ks with
 | nil=>simp
 | cons y ks ih=>simp only [dV,List.sum_cons] at ih ⊢; omega
theorem uu (k:Int) (n:Nat) (l:List Tx):(gR k n l).length <= l.length+2:=by
 unfold gR
 split
 . omega
 . simp
theorem Ze (ks:List (Int × List Tx)):(eE ff (ks.map fun x=>gR x.1 1 x.2)).length <= kS ks:=by
 refine Nat.le_trans (Ao _ _) ?_
 unfold kS
 induction ks with
 | nil=>simp
 | cons y ks ih =>
   have:=uu y.1 1 y.2
   simp only [dV,List.sum_cons] at ih ⊢; omega
theorem Gb (a b:List (Int × List Tx)):kS (a++b)=kS a+kS b:=by simp [kS]
theorem Xu:∀ (ks:List (Int × List Tx)),(ks.getD 0 (0,[])).2.length+(ks.getD 1 (0,[])).2.length+(ks.getD 2 (0,[])).2.length <= kS ks
 | []=>by simp [kS]
 | [a]=>by simp [kS]
 | [a,b]=>by simp [kS]; omega
 | a::b::c::ks=>by simp [kS]; omega
theorem Xr (w:aQ) (ks:List (Int × List Tx)):(eE w ((ks.map (·.2)).take (ks.length - 1))).length+(ks.getD (ks.length - 1) (0,[])).2.length <= kS ks:=by
 cases ks with
 | nil=>simp [eE,kS]
 | cons y r =>
   obtain ⟨q,x,hq⟩:=lM (l:=y::r) (by simp)
   rw [hq]
   have:=CK w q
   have e:(q++[x]).length - 1=q.length:=by simp
   rw [e,Gb,List.map_append,List.take_left' (by simp)]
   have:((q++[x]).getD q.length (0,[])).2=x.2:=by simp [qf]
   rw [this]
   have:kS [x]=x.2.length+3:=by simp [kS]
   omega
theorem Xt (w:aQ) (ks:List (Int × List Tx)) (h:2 <= ks.length):(eE w ((ks.map (·.2)).take (ks.length - 2))).length+(ks.getD (ks.length - 2) (0,[])).2.length+(ks.getD (ks.length - 1) (0,[])).2.length <= kS ks:=by
 obtain ⟨q1,y,rfl⟩:=lM (l:=ks) (by omega)
 obtain ⟨q,x,rfl⟩:=lM (l:=q1) (by simp at h; omega)
 have:=CK w q
 have e:(q++[x]++[y]).length - 2=q.length:=by simp
 have e1:(q++[x]++[y]).length - 1=q.length+1:=by simp
 rw [e,e1,Gb,Gb,iM,List.map_append,List.take_left' (by simp)]
 have h1:((q++([x]++[y])).getD q.length (0,[])).2=x.2:=by simp [qf]
 have h2:((q++([x]++[y])).getD (q.length+1) (0,[])).2=y.2:=by simp [qf]
 rw [h1,h2]
 have:kS [x]=x.2.length+3:=by simp [kS]
 have:kS [y]=y.2.length+3:=by simp [kS]
 omega
theorem KG {k:Int} {t:aQ} {n m:Int} {ks:List (Int × List Tx)} (h34:k=3\/k=4->2 <= ks.length):(dH k t n m ks).length <= 16+kS ks:=by
 have f3:=Xu ks
 have f1:=Xr fG ks
 have f0:=CK fG ks
 have fq:=Ze ks
 have b0:=fun l=>uu (ks.getD 0 (0,[])).1 l (ks.getD 0 (0,[])).2
 have b1:=fun l=>uu (ks.getD 1 (0,[])).1 l (ks.getD 1 (0,[])).2
 have b2:=fun l=>uu (ks.getD 2 (0,[])).1 l (ks.getD 2 (0,[])).2
 have bl:=fun l=>uu (ks.getD (ks.length - 1) (0,[])).1 l (ks.getD (ks.length - 1) (0,[])).2
 unfold dH
 simp only
 refine Cs (fun c=>?_) (fun c2=>Cs (fun c=>?_) (fun c34=>?_))
 . simp only [dh,jf,oQ]; omega
 . have f2:=Xt fG ks (h34 c)
   simp only [dh,jf,oQ]; omega
 repeat' (refine Cs (fun c=>?_) (fun c=>?_))
 all_goals try simp only [dh,jf,oQ]
 all_goals first
  | omega
  | (have:=b0 1; have:=b1 1; have:=b2 1; omega)
  | (have:=b0 4; omega)
  | (have:=b0 8; omega)
  | (have:=b0 (if dD k=5 then 6 else dD k); have:=b1 (dD k+1); omega)
  | (have:=bl 1; omega)
theorem Re {ks:List Tre} (h:eu (ks.map Tre.kind) [⟨.kind 5,0,900⟩,⟨.base,1,1⟩,⟨.term,1,1⟩]=true):2 <= ks.length:=by
 refine Nat.le_of_not_lt fun aO=>?_
 obtain ⟨ps,a,b,rfl,_⟩:=Bj (by omega) h
 simp at aO; omega
theorem Vi {k:Int} {x:aQ} {n m a:Int} {ks:List Tre} (ho:(Tre.mk k x n m a ks).ok=true):(Tre.mk k x n m a ks).pr.length <= 16+(ks.map fun t=>t.pr.length+3).sum:=by
 obtain ⟨f,hf,g1,g2,g3⟩:=Tre.Bt ho
 rw [Tre.fF]
 have h:=KG (k:=k) (t:=x) (n:=n) (m:=m) (ks:=ks.map fun t=>(t.kind,t.pr)) (fun h=>by
  have uH:f=⟨true,false,false,[⟨.kind 5,0,900⟩,⟨.base,1,1⟩,⟨.term,1,1⟩]⟩:=by rcases h with rfl | rfl <;> simpa [cx] using hf.symm
  subst uH
  rw [List.length_map]
  exact Re g2)
 have e:kS (ks.map fun t=>(t.kind,t.pr))=(ks.map fun t=>t.pr.length+3).sum:=by
  unfold kS; rw [List.map_map]; rfl
 rw [e] at h
 exact h
theorem Vj:∀ (N:Nat) (ts:List Tre),(Tre.bA ts).length <= N->(∀ t ∈ ts,t.ok=true)->(ts.map fun t=>t.pr.length+3).sum <= 19 * (Tre.bA ts).length:=by
 intro N
 induction N with
 | zero =>
   intro ts hN ho
   cases ts with
   | nil=>simp
   | cons t ts=>have:=t.dB; simp only [Tre.cW,dh] at hN; omega
 | succ N ih =>
   intro ts hN ho
   cases ts with
   | nil=>simp
   | cons t ts =>
     have ht:=ho t (by simp)
     have Dg:=lE t
     simp only [Tre.cW,dh] at hN
     have i1:=ih t.kids (by omega) fun c hc=>(Cu ht c hc).2
     have i2:=ih ts (by omega) fun c hc=>ho c (by simp [hc])
     have hn:t.pr.length <= 16+(t.kids.map fun t=>t.pr.length+3).sum:=by
      cases t with
      | mk k x n m a ks=>exact Vi ht
     rw [Tre.cW,dh,dV,List.sum_cons]
     omega
theorem YV {t:Tre} (ho:t.ok=true):t.pr.length <= 19 * t.flat.length:=by
 have:=Vj _ [t] (dk _) (by simpa using ho)
 simp at this
 omega
end Go.Rip
namespace Go.Rip
open Go.Proofs Go.RowKit
section
variable {v:AV} {L:List Nd} {U:St} {R:cA->St->Prop} {s:Tre} {n:Nat}
theorem PS.fz {b:Nat} {ao ad:St} {bh:List Tx} (h:PS b v ao bh ad) (hb:NK ao b):Fz ao ad:=fun c x hx ht=>h.fr c x (hb.ne hx ht) hx ht
theorem Vr {v:AV} {l:List Nd} (h:Sl v l):v.cQ=true/\au v=[v]:=by
 rcases h.s with ⟨_,_,rfl⟩ | ⟨c,rfl⟩ <;> exact ⟨rfl,rfl⟩
theorem Fz.BH {c:Nat} {ao U:St} {x:Live} (h:Fz ao U) (n:NK ao c):Fz ao (U.set c x):=h.gx n fun d hd=>by rw [cR,if_neg hd]
theorem G1 (hv:Sl v L) (hL:L.length <= 1000) (hz:∀ (i:Nat) (y:Nd),L[i]?=some y->y.size <= 100000) (hs:et L n s) (h9:s.flat.length <= 900) (ho:s.ok=true) (h1:s.kind ≠ 1)
 (h:∀ ad,Fz U ad->R (.ret (.aF [.str (dW s.pr).1,.int .i64 (dW s.pr).2])) ad):ae K 64 [.agg [v],.int .i64 (n:Nat)] U R:=by
 obtain ⟨x,hx,si,Th,_⟩:=hs.mV
 have hle:=hs.le
 have k9:=YV ho
 have uI:=Gq hv hL hz _ s n (dk _) hs h9 ho h1
 refine GR ?_
 unfold KP
 rw [er rfl]
 intro b2 fY
 have m2:(U.new b2 (.box (au (.agg [v])))).box b2=some [v]:=aK
 have e2:=a7 fY (x:=.box (au (.agg [v])))
 generalize U.new b2 _=ao at *
 rw [cS]
 intro b4 gu
 have m4:(ao.new b4 (.box [AV.str []])).box b4=some [.str []]:=aK
 have Br:=gu.bK m2
 have f4:=e2.fresh gu.1
 have e4:=e2.new gu (x:=.box [AV.str []])
 have m2:=(a7 gu (x:=.box [AV.str []])).aS m2
 generalize ao.new b4 (.box [AV.str []])=aP at *
 rw [cS]
 intro b5 iH
 have m5:(aP.new b5 (.box [AV.int .i64 0])).box b5=some [.int .i64 0]:=aK
 have n25:=iH.bK m2
 have ra:=iH.bK m4
 have f5:=e4.fresh iH.1
 have e5:=e4.new iH (x:=.box [AV.int .i64 0])
 have m2:=(a7 iH (x:=.box [AV.int .i64 0])).aS m2
 have m4:=(a7 iH (x:=.box [AV.int .i64 0])).aS m4
 generalize aP.new b5 (.box [AV.int .i64 0])=aZ at *
 refine fV (fV (dq m2 rfl (Lh (hv.fh _) hx (show (cG x)[0]?=some (.int .u8 x.kind) from rfl) ?_)))
 rw [si,c6,al,decide_eq_false h1]
 simp only [eA]
 refine df ?_
 rw [wa m2]
 refine ⟨by simp,mr Gx ?_⟩
 rw [YU]
 refine Xe [v,.aw,opsV] ?_ ?_
 . obtain ⟨l1,l2⟩:=Vr hv
   simp [tN,opsV,aB]
 rw [er rfl]
 intro Lp FA
 have m22:(aZ.new Lp (.box (au (.agg [v,.aw,opsV])))).box Lp=some [v,.aw,opsV]:=aK
 have n2:=FA.bK m2
 have en:=a7 FA (x:=.box (au (.agg [v,.aw,opsV])))
 have ac2:NK aZ Lp:=.of FA.1
 have hP:PS Lp v aZ [] (aZ.new Lp (.box (au (.agg [v,.aw,opsV])))):=⟨⟨.aw,m22,eo.nil (pq _)⟩,.kr en⟩
 have aeD:=FA.bK m4
 have aeE:=FA.bK m5
 refine ⟨fun b hb=>?_,?_⟩
 . simp only [cM,ia,cD,List.not_mem_nil,or_false] at hb
   subst hb
   rw [kH,if_neg n2]
 refine uI _ _ _ _ _ hP (by unfold NT; simp; omega) fun bZ h3=>?_
 rw [bu]
 rw [kK] at h3
 have f3:=h3.fz ac2
 obtain ⟨⟨vl,gw,hg⟩,_⟩:=h3
 simp only [bU,al]
 refine fV (dq gw rfl ?_)
 refine Sg hg.sl (Tv _ s (dk _) ho) (by omega) fun cC f4'=>?_
 simp only [bu,bB,List.drop,bE]
 have f34:=f3.trans f4'
 have m4:=f34.aS m4
 have m5:=f34.aS m5
 rw [cX m4]
 refine ⟨⟨rfl,rfl,by simp⟩,?_⟩
 rw [cX (show (cC.set b4 _).box b5=some [.int .i64 0] by rw [aN ra.symm]; exact m5)]
 refine ⟨⟨rfl,rfl,by simp⟩,?_⟩
 rw [qh (show ((cC.set b4 (.box (aB [.str []] 0 (au (.str (dW s.pr).1))))).set b5 (.box (aB [.int .i64 0] 0 (au (.int .i64 (dW s.pr).2))))).box b4=some [.str (dW s.pr).1] by rw [aN ra,aW]; rfl) rfl]
 rw [qh aW rfl]
 refine ak.mk (h _ ?_)
 have hfz:Fz U cC:=(Fz.kr e5).trans f34
 exact (hfz.BH (.of f4)).BH (.of f5)
theorem wj {t:Tre} {ts:List Tre} {acc:aQ}:fU (t::ts) acc=if (dW t.pr).2 ≠ 0 then ([],(dW t.pr).2) else fU ts (acc++(dW t.pr).1++[10]):=rfl
theorem Sf (hv:Sl v L) (hL:L.length <= 1000) (hz:∀ (i:Nat) (y:Nd),L[i]?=some y->y.size <= 100000) (hs:et L n s) (h9:s.flat.length <= 900) (ho:s.ok=true) (h1:s.kind=1)
 (h:∀ ad,Fz U ad->R (.ret (.aF [.str (fU s.kids []).1,.int .i64 (fU s.kids []).2])) ad):ae K 64 [.agg [v],.int .i64 (n:Nat)] U R:=by
 obtain ⟨x,hx,si,Th,_⟩:=hs.mV
 have hle:=hs.le
 have Dg:=lE s
 have gh:=Cu ho
 refine GR ?_
 unfold KP
 rw [er rfl]
 intro b2 fY
 have m2:(U.new b2 (.box (au (.agg [v])))).box b2=some [v]:=aK
 have e2:=a7 fY (x:=.box (au (.agg [v])))
 generalize U.new b2 _=ao at *
 rw [cS]
 intro b4 gu
 have m4:(ao.new b4 (.box [AV.str []])).box b4=some [.str []]:=aK
 have Br:=gu.bK m2
 have f4:=e2.fresh gu.1
 have e4:=e2.new gu (x:=.box [AV.str []])
 have m2:=(a7 gu (x:=.box [AV.str []])).aS m2
 generalize ao.new b4 (.box [AV.str []])=aP at *
 rw [cS]
 intro b5 iH
 have m5:(aP.new b5 (.box [AV.int .i64 0])).box b5=some [.int .i64 0]:=aK
 have n25:=iH.bK m2
 have ra:=iH.bK m4
 have f5:=e4.fresh iH.1
 have e5:=e4.new iH (x:=.box [AV.int .i64 0])
 have m2:=(a7 iH (x:=.box [AV.int .i64 0])).aS m2
 have m4:=(a7 iH (x:=.box [AV.int .i64 0])).aS m4
 generalize aP.new b5 (.box [AV.int .i64 0])=aZ at *
 refine fV (fV (dq m2 rfl (Lh (hv.fh _) hx (show (cG x)[0]?=some (.int .u8 x.kind) from rfl) ?_)))
 rw [si,c6,al,decide_eq_true h1]
 simp only [cI]
 refine cO ?_
 rw [ju]
 intro b7 kN
 rw [show NV.at b7 .box=AV.box b7 0 from rfl]
 have hB:Bu U (aZ.new b7 (.ri 158 [.aV,.aw])) b7 []:=⟨.inl ⟨rfl,.inl (by rw [kH,if_pos rfl])⟩,.of (e5.fresh kN.1),.kr (e5.new kN)⟩
 have n27:=kN.bK m2
 have Tq:=kN.bK m4
 have n57:=kN.bK m5
 have e7:=a7 kN (x:=.ri 158 [.aV,.aw])
 have m2:=e7.aS m2
 have m4:=e7.aS m4
 have m5:=e7.aS m5
 generalize aZ.new b7 _=bZ at *
 refine j6 m2 ?_
 refine p8 (n:=n) hv.s hx (bw (by omega) (by omega)) fun bn be bt cC d1 d2 d3 f1 f2 f3 q1 q2 q3 e3=>?_
 rw [bu]
 have n2n:b2 ≠ bn:=fun e=>bG m2 (e ▸ f1)
 have n4n:b4 ≠ bn:=fun e=>bG m4 (e ▸ f1)
 have n4e:b4 ≠ be:=fun e=>bG m4 (e ▸ f2)
 have n4t:b4 ≠ bt:=fun e=>bG m4 (e ▸ f3)
 have YH:b5 ≠ bn:=fun e=>bG m5 (e ▸ f1)
 have YG:b5 ≠ be:=fun e=>bG m5 (e ▸ f2)
 have YI:b5 ≠ bt:=fun e=>bG m5 (e ▸ f3)
 have Xb:bZ.live b7 ≠ none:=by
  rcases hB.at_ with ⟨_,h' | h'⟩ | ⟨_,τ,h',_⟩
  . rw [h']; simp
  . exact bG h'
  . exact bG h'
 have n7n:b7 ≠ bn:=fun e=>Xb (e ▸ f1)
 have n7e:b7 ≠ be:=fun e=>Xb (e ▸ f2)
 have n7t:b7 ≠ bt:=fun e=>Xb (e ▸ f3)
 have m2:=e3.aS m2
 have m4:=e3.aS m4
 have m5:=e3.aS m5
 have hB:=hB.mono (.kr e3)
 have A8:ee L ((n:Int)+x.size) L.length (n+1)=cE (n+1) s.kids:=by
  rw [Th]; exact sk hs
 have qD:s.kids.length <= 900:=by have:=Tre.oZ s.kids; omega
 have ret:∀ (ad:St) (a:aQ) (e:Int),ad.box b4=some [.str a]->ad.box b5=some [.int .i64 e]->Fz U ad->a=(fU s.kids []).1->e=(fU s.kids []).2->br (some (false,1)) (.box b4 0) ad fun r0=>br (some (false,1)) (.box b5 0) ad fun r1=>ak R (AV.aF [r0,r1]) ad:=by
  intro ad a e k4 k5 hf ha he
  rw [qh k4 rfl,qh k5 rfl]
  subst ha he
  exact ak.mk (h _ hf)
 have put:∀ (ad:St) (a0 a:aQ) (e0 e:Int) (Q:St->Prop),ad.box b4=some [.str a0]->ad.box b5=some [.int .i64 e0]->Fz U ad ->
  (∀ ic,ic.box b4=some [.str a]->ic.box b5=some [.int .i64 e]->Fz U ic->(∀ c,c ≠ b4->c ≠ b5->ic.live c=ad.live c)->Q ic)->∀ (P1 P2:AV->St->Prop),(aJ (some (false,1)) (.box b4 0) (.str a) ad).wp K ad (fun _ U=>(aJ (some (false,1)) (.box b5 0) (.int .i64 e) U).wp K U (fun _ U=>Q U) P2) P1:=by
  intro ad a0 a e0 e Q k4 k5 hf hQ P1 P2
  rw [cX k4]
  refine ⟨⟨rfl,rfl,by simp⟩,?_⟩
  rw [cX (show (ad.set b4 (.box (aB [.str a0] 0 (au (.str a))))).box b5=some [.int .i64 e0] by rw [aN ra.symm]; exact k5)]
  refine ⟨⟨rfl,rfl,by simp⟩,hQ _ ?_ ?_ ?_ ?_⟩
  . rw [aN ra,aW]; rfl
  . rw [aW]; rfl
  . exact (hf.BH (.of f4)).BH (.of f5)
  . intro c c4 c5
    rw [cR,if_neg c5,cR,if_neg c4]
 have fin:∀ (ad:St) (acc:aQ),ad.box b4=some [.str []]->ad.box b5=some [.int .i64 0]->Bu U ad b7 acc->fU s.kids []=fU [] acc ->
  ae K 126 [.box b7 0] ad (ag (fun v49 U =>
  (ar .gtr (BT.mk false false false none false) true v49 (AV.int .i64 2500)).wp K U (fun ig U =>
  av ig (
   (aJ (some (false,1)) (.box b4 0) (AV.str w_) U).wp K U (fun _ U =>
   (aJ (some (false,1)) (.box b5 0) (AV.int .i64 5) U).wp K U (fun _ U =>
   br (some (false,1)) (.box b4 0) U fun oR =>
   br (some (false,1)) (.box b5 0) U fun Ag =>
   ak R (AV.aF [oR,Ag]) U) (aa R)) (aa R)) (
   ae K 127 [.box b7 0] U (ag (fun v51 U =>
   (aJ (some (false,1)) (.box b4 0) v51 U).wp K U (fun _ U =>
   (aJ (some (false,1)) (.box b5 0) (AV.int .i64 0) U).wp K U (fun _ U =>
   br (some (false,1)) (.box b4 0) U fun qg =>
   br (some (false,1)) (.box b5 0) U fun Ah =>
   ak R (AV.aF [qg,Ah]) U) (aa R)) (aa R)) (aa R)))) (aa R)) (aa R)):=by
  intro ad acc k4 k5 sa e
  refine Lv sa ?_
  rw [dO,al]
  refine fI (fun AT=>?_) fun AT=>?_
  . have hE:fU s.kids []=([],5):=by rw [e,fU,if_pos (by omega)]
    exact put ad [] [] 0 5 _ k4 k5 sa.fz (fun ic j4 j5 hf _=>ret ic [] 5 j4 j5 hf (by rw [hE]) (by rw [hE])) _ _
  . have hE:fU s.kids []=(acc,0):=by rw [e,fU,if_neg (by omega)]
    refine Lw sa fun dm xr hf5=>?_
    exact put dm [] acc 0 0 _ (xr.aS Tq k4) (xr.aS n57 k5) hf5 (fun ic j4 j5 hf _=>ret ic acc 0 j4 j5 hf (by rw [hE]) (by rw [hE])) _ _
 have hNL:∀ {ad:St},Fz U ad->∀ {o:Nat},ad.live o=none->NK U o:=fun hf o ho=>hf.nk ho
 refine zF (n:=n) (en:=(n:Int)+x.size)
  (fun o ks ad=>(ad.box bn=some [.int .i64 (n:Nat)]/\ad.box be=some [.int .i64 ((n:Int)+x.size)]/\ad.box bt=some [v])/\(ad.box b2=some [v]/\ad.box b4=some [.str []]/\ad.box b5=some [.int .i64 0])/\NK U o/\∃ acc,Bu U ad b7 acc/\acc.length <= 2501 * ks.length/\fU s.kids []=fU (s.kids.drop ks.length) acc)
  (fun o ad=>NK U o/\Fz U ad/\∃ e,ad.box b4=some [.str []]/\ad.box b5=some [.int .i64 e]/\fU s.kids []=([],e)) hv.s (by omega) (by omega) (by omega)
  (fun o ks ad hI=>hI.1) (fun o ks ad L0 L' hI ho=>?_) (fun o ad L0 L' hJ ho=>?_) (fun ks fh y ad o L1 q hI hy aO abp Mw qD nU hU Bb FY=>?_) (fun ks ad o L0 gh hI Dc=>?_) (fun ad o L0 hJ Dc=>?_) (fun o L0 ho=>?_)
 . obtain ⟨⟨i1,i2,i3⟩,⟨j2,j4,j5⟩,hn,acc,sa,hl,he⟩:=hI
   have kb:∀ {c y},ad.box c=some y->(ad.set o (.loop L')).box c=some y:=fun h=>by rw [aN (aX h ho)]; exact h
   exact ⟨⟨kb i1,kb i2,kb i3⟩,⟨kb j2,kb j4,kb j5⟩,hn,acc,sa.gx hn ho fun c hc=>by rw [cR,if_neg hc],hl,he⟩
 . obtain ⟨hn,hf,e,j4,j5,he⟩:=hJ
   have kb:∀ {c y},ad.box c=some y->(ad.set o (.loop L')).box c=some y:=fun h=>by rw [aN (aX h ho)]; exact h
   exact ⟨hn,hf.BH hn,e,kb j4,kb j5,he⟩
 . obtain ⟨⟨i1,i2,i3⟩,⟨j2,j4,j5⟩,hn,acc,sa,hl,he⟩:=hI
   rw [A8] at nU
   obtain ⟨r,hr⟩:=nU
   have QZ:(cE (n+1) s.kids)[ks.length]?=some fh:=by rw [hr]; simp
   obtain ⟨u,hu,Tc⟩:=rI hs.kids QZ
   have hum:=fj hu
   obtain ⟨uk1,uok⟩:=gh u hum
   have hut:=Tre.Bi hum
   have vA:s.kids.drop ks.length=u::s.kids.drop (ks.length+1):=by
    rw [gl (c8.1 hu).1,(c8.1 hu).2]
   have aez:ks.length < s.kids.length:=(c8.1 hu).1
   rw [vA,wj] at he
   refine j6 j2 (G1 hv hL hz Tc (by omega) uok uk1 fun dm xr=>?_)
   have i1:=xr.aS i1
   have i2:=xr.aS i2
   have i3:=xr.aS i3
   have j2:=xr.aS j2
   have j4:=xr.aS j4
   have j5:=xr.aS j5
   have sa:=sa.mono xr
   have hU:=xr.loop hU
   simp only [bu,bB,List.drop,bE]
   refine P8 ?_
   by_cases sY:(dW u.pr).2=0
   . simp only [sY,da,cI]
     refine cO ?_
     rw [if_neg (by simp [sY])] at he
     obtain ⟨t1,t2,t3⟩:=D2 sY
     have hlen:((dW u.pr).1).length <= 2500:=by rw [t1]; exact t3
     rw [Lg]
     refine ⟨by simp [lR]; omega,?_⟩
     refine C3 (by simp [lR]) sa (by simp [lR]; omega) fun yy mi XB f6=>?_
     refine Bb mi ⟨⟨f6.aS n7n.symm i1,f6.aS n7e.symm i2,f6.aS n7t.symm i3⟩,⟨f6.aS n27 j2,f6.aS Tq j4,f6.aS n57 j5⟩,hn,_,XB,?_,?_⟩ (hz _ _ hy) (f6.loop ?_ hU)
     . simp [lR]; omega
     . rw [he,dh,List.length_singleton]
       congr 1
       simp [lR]
     . rintro rfl
       rcases sa.at_ with ⟨_,h' | h'⟩ | ⟨_,τ,h',_⟩
       . unfold St.loop at hU; rw [h'] at hU; cases hU
       . exact aX h' hU rfl
       . exact aX h' hU rfl
   . simp only [sY,dN,eA]
     refine df ?_
     rw [if_pos sY] at he
     refine put dm [] [] 0 _ _ j4 j5 sa.fz (fun ic k4 k5 hf o1=>?_) _ _
     refine FY ic ⟨hn,hf,_,k4,k5,he⟩ ?_
     rw [dG (o1 o (aX j4 hU).symm (aX j5 hU).symm)]; exact hU
 . obtain ⟨⟨i1,i2,i3⟩,⟨j2,j4,j5⟩,hn,acc,sa,hl,he⟩:=hI
   have kb:∀ {c y},ad.box c=some y->(ad.del o).box c=some y:=fun h=>by rw [eM (aX h Dc)]; exact h
   rw [A8] at gh
   have hlen:ks.length=s.kids.length:=by rw [gh,ma]
   rw [hlen,List.drop_length] at he
   exact fin _ acc (kb j4) (kb j5) (sa.gx hn Dc fun c hc=>by rw [jd,if_neg hc]) he
 . obtain ⟨hn,hf,e,j4,j5,he⟩:=hJ
   have kb:∀ {c y},ad.box c=some y->(ad.del o).box c=some y:=fun h=>by rw [eM (aX h Dc)]; exact h
   exact ret _ [] e (kb j4) (kb j5) (hf.gx hn fun c hc=>by rw [jd,if_neg hc]) (by rw [he]) (by rw [he])
 . have e:=a7 ho (x:=.loop L0)
   exact ⟨⟨e.aS q1,e.aS q2,e.aS q3⟩,⟨e.aS m2,e.aS m4,e.aS m5⟩,hB.fz.nk ho.1,[],hB.mono (.kr e),by simp,by simp⟩
end
end Go.Rip
namespace Go.Rip
open Go.Proofs Go.RowKit
section
variable {U:St} {R:cA->St->Prop} {v:AV} {l:List Nd} {p:Int} {g:FuncId} {fs cs:List AV}
theorem ZD (hv:Sl v l) (hl:l.length <= 10000) (iX:∀ x ∈ l,x.text.length <= 3000) (hg:dU K.P g=true)
 (h0:gQ l p ≠ 0->∀ ad,cN U ad->R (.ret (.aF [.str [],.int .i64 (gQ l p)])) ad)
 (h1:gQ l p=0->∀ ad,cN U ad->ae K g (fs++[.agg [v]]++cs) ad (Ej R (.str []))):ae K 62 [.agg [v],.int .i64 p,.func (.func g) fs cs] U R:=by
 refine RS ?_
 unfold TL
 rw [er rfl]
 intro b1 fX
 have m1:(U.new b1 (.box (au (.agg [v])))).box b1=some [v]:=aK
 have e1:=a7 fX (x:=.box (au (.agg [v])))
 generalize U.new b1 _=aP at *
 refine j6 m1 ((ru hv.s hv.c hl iX).go ?_)
 rw [c6,al]
 by_cases hc:gg l=0
 rotate_left
 . simp only [hc,dN,eA]
   refine df (ak.mk ?_)
   rw [<- mU (p:=p) hc]
   exact h0 (by rw [mU hc]; exact hc) _ e1
 simp only [hc,da,cI]
 refine cO (fV (dq m1 rfl ?_))
 rw [hv.s.len,al,iy,fl,wp_cond,al]
 refine ⟨bw (by omega) (by omega),Ax ?_⟩
 simp only [dR,al]
 by_cases hp:0 <= p/\p <= (l.length:Int) - 1
 rotate_left
 . simp only [hp,dN,eA]
   refine df (ak.mk ?_)
   have:=zS hc hp
   rw [<- this]
   exact h0 (by rw [this]; decide) _ e1
 simp only [hp,and_self,da,cI]
 refine cO (j6 m1 (qA [v] rfl ?_))
 rw [Hi hg]
 exact Ci (h1 (ur hc hp) _ e1)
end
noncomputable def nK (l:List Nd) (p:Int):aQ × Int:=if gQ l p ≠ 0 then ([],gQ l p) else match As ((l.drop p.toNat).take (eW l p.toNat)) with | some s=>mN s | none=>([],0)
theorem D0 {l:List Nd} {p:Int} (h:gQ l p ≠ 0):nK l p=([],gQ l p):=by unfold nK; rw [if_pos h]
theorem yo {t s:Tre} {n:Nat} (h:gQ t.flat n=0) (hs:et t.flat n s):nK t.flat n=mN s:=by
 have dQ:=KS hs
 unfold nK
 rw [if_neg (by simp [h]),gb,dQ]
 obtain ⟨r,hr⟩:=hs
 rw [hr,List.take_left,D4]
theorem KY {s:Tre} (h:(mN s).2 ≠ 0):(mN s).1=[]:=by
 have e1:∀ l:List Tx,(dW l).2 ≠ 0->(dW l).1=[]:=fun l h=>by
  unfold dW at h ⊢
  repeat' split
  all_goals first
   | rfl
   | (exfalso; simp_all)
 have e2:∀ (ts:List Tre) (acc:aQ),(fU ts acc).2 ≠ 0->(fU ts acc).1=[]:=by
  intro ts
  induction ts with
  | nil=>intro acc h; unfold fU at h ⊢; split <;> simp_all
  | cons t ts ih =>
    intro acc h
    rw [wj] at h ⊢
    split
    . rfl
    . rename_i h'
      rw [if_neg h'] at h
      exact ih _ h
 unfold mN at h ⊢
 split
 . rename_i h'; rw [if_pos h'] at h; exact e1 _ h
 . rename_i h'; rw [if_neg h'] at h; exact e2 _ _ h
theorem D1 {v:AV} {l:List Nd} (hv:Sl v l) (hl:l.length <= 1000) (iX:∀ x ∈ l,x.text.length <= 3000) (p:Int):Pure K 28 [.agg [v],.int .i64 p] (.aF [.str (nK l p).1,.int .i64 (nK l p).2]):=by
 refine Pure.of (by simp [bY,hv.cl,show closed (.int .i64 p)=true from rfl]) rfl (fun U=>rfl) fun R hR=>?_
 refine RL ?_
 unfold TD
 rw [er rfl]
 intro b1 fX
 have m1:((bC ⟨.e,0⟩).new b1 (.box (au (.agg [v])))).box b1=some [v]:=aK
 generalize (bC _).new b1 _=ao at *
 rw [er rfl]
 intro b2 fY
 have m2:(ao.new b2 (.box (au (.int .i64 p)))).box b2=some [.int .i64 p]:=aK
 have m1:=(a7 fY (x:=.box (au (.int .i64 p)))).aS m1
 generalize ao.new b2 (.box (au (.int .i64 p)))=aP at *
 refine j6 m1 (dq m2 rfl ?_)
 have fin:∀ (x:aQ) (e:Int) (ad:St),x=(nK l p).1->e=(nK l p).2->ag (fun v9 U=>(aR v9 0).wp K U (fun v10 U=>(aR v9 1).wp K U (fun v11 U=>ak R (AV.aF [v10,v11]) U) (aa R)) (aa R)) (aa R) (.ret (.aF [.str x,.int .i64 e])) ad:=by
  intro x e ad hx he
  subst hx he
  simp only [bu,bB,List.drop,bE]
  exact ak.mk (hR _)
 refine ZD (fs:=[]) (cs:=[.box b2 0]) hv (by omega) iX (by kernel_rfl) (fun ha aZ e2=>?_) (fun ha aZ e2=>?_)
 . exact fin _ _ _ (by rw [D0 ha]) (by rw [D0 ha])
 have m2:=e2.aS m2
 obtain ⟨n,t,s,rfl,rfl,h1,h2,h3,hs⟩:=xg ha
 have hS:=yo ha hs
 have hle:=hs.le
 have SR:t.flat.length <= 900:=by
  refine Nat.le_of_not_lt fun h'=>?_
  have:gQ t.flat n ≠ 0:=by
   have hc:gg t.flat=5:=by unfold gg; rw [if_pos h']
   rw [mU (by rw [hc]; decide),hc]; decide
  exact this ha
 have cr:s.ok=true:=by
  obtain ⟨s',dY,FZ⟩:=u6 _ [t] 0 (dk _) (show kD t.flat 0 [t] from ⟨[],by simp⟩) n (by omega) (by simpa using h3)
  rw [hs.inj dY]
  exact FZ (by simp [h2])
 have hz:∀ (i:Nat) (y:Nd),t.flat[i]?=some y->y.size <= 100000:=fun i y hy=>by have:=vw.2.2 i y hy; omega
 have key:∀ Rt:cA->St->Prop,(∀ ad,Rt (.ret (.aF [.str (mN s).1,.int .i64 (mN s).2])) ad)->ae K 63 [.agg [v],.box b2 0] aZ Rt:=by
  intro Rt SH
  refine RT ?_
  unfold TM
  rw [er rfl]
  intro b3 jn
  have m3:(aZ.new b3 (.box (au (.agg [v])))).box b3=some [v]:=aK
  have m2:=(a7 jn (x:=.box (au (.agg [v])))).aS m2
  generalize aZ.new b3 _=bZ at *
  refine j6 m3 (dq m2 rfl ?_)
  by_cases hk:s.kind=1
  . have:mN s=fU s.kids []:=by unfold mN; rw [if_neg (by simp [hk])]
    rw [this] at SH
    refine Sf hv hl hz hs (by omega) cr hk fun ad _=>?_
    simp only [bu,bB,List.drop,bE]
    exact ak.mk (SH _)
  . have:mN s=dW s.pr:=by unfold mN; rw [if_pos hk]
    rw [this] at SH
    refine G1 hv hl hz hs (by omega) cr hk fun ad _=>?_
    simp only [bu,bB,List.drop,bE]
    exact ak.mk (SH _)
 refine key _ fun ad=>⟨_,_,rfl,fun bT=>fin _ _ _ ?_ (by rw [hS]),fun he=>fin _ _ _ (by rw [hS]) (by rw [hS,he])⟩
 rw [hS,KY bT]
theorem KH {v:AV} {l:List Nd} (hv:Sl v l) (hl:l.length <= 1000) (iX:∀ x ∈ l,x.text.length <= 3000):Pure K 25 [.agg [v]] (.aF [.str (nK l 0).1,.int .i64 (nK l 0).2]):=by
 refine Pure.of (by simp [bY,hv.cl]) rfl (fun U=>rfl) fun R hR=>?_
 refine RI ?_
 unfold TB
 rw [er rfl]
 intro b1 fX
 have m1:((bC ⟨.e,0⟩).new b1 (.box (au (.agg [v])))).box b1=some [v]:=aK
 generalize (bC _).new b1 _=ao at *
 refine j6 m1 ((D1 hv hl iX 0).go ?_)
 simp only [bB,List.drop,bE]
 exact ak.mk (hR _)
end Go.Rip
namespace Go.Rip
theorem LB {l:List Nd} (h:gg l=0):∃ t:Tre,l=t.flat/\t.kind=1/\t.ok=true/\t.flat.length <= 900/\t.deep <= 60/\t.kids.length <= 24:=by
 have h9:¬ 900 < l.length:=fun h'=>by unfold gg at h; rw [if_pos h'] at h; cases h
 have:∃ t:Tre,l=t.flat/\t.kind=1/\t.ok=true:=Classical.not_not.1 fun h'=>by rw [rv h9 h'] at h; cases h
 obtain ⟨t,rfl,h1,h2⟩:=this
 refine ⟨t,rfl,h1,h2,by omega,?_⟩
 rw [C5 t h9] at h
 unfold Cc at h
 rw [if_neg (by simp [h1,h2])] at h
 refine ⟨Nat.le_of_not_lt fun h'=>?_,Nat.le_of_not_lt fun h'=>?_⟩
 . rw [if_pos (.inl h')] at h; cases h
 . rw [if_pos (.inr h')] at h; cases h
theorem Nr {t:Tre} (h1:t.kind=1) (h2:t.ok=true) (h9:t.flat.length <= 900):(∀ c ∈ t.kids,c.ok=true/\p7 c.kind=true/\c.flat.length <= 900)/\∃ a,t=.mk 1 [] 0 0 a t.kids:=by
 cases t with
 | mk k x n m a ks =>
   obtain rfl:k=1:=h1
   obtain ⟨f,hf,g1,g2,g3⟩:=Tre.Bt h2
   obtain rfl:(⟨false,false,false,[⟨.item,0,900⟩]⟩:jK)=f:=by simpa [cx] using hf
   obtain ⟨f1,_,_,_,f5,f6⟩:=rY g1
   obtain rfl:=f1 rfl
   obtain rfl:=f5 rfl
   obtain rfl:=f6 rfl
   obtain ⟨_,hc⟩:=Kh g2
   have hlen:(Tre.bA ks).length+1=(Tre.mk 1 [] 0 0 a ks).flat.length:=by rw [Tre.fP]; simp
   exact ⟨fun c wK=>⟨g3 c wK,hc c wK,by have:=Tre.Bi (ks:=ks) wK; omega⟩,a,rfl⟩
end Go.Rip
namespace Go.Rip
open Go.Proofs Go.RowKit
theorem wU:∀ {ts:List Tre} {p:Nat},(cE p ts).Pairwise (· < ·)
 | [],p=>by simp [cE]
 | t::ts,p=>by
   rw [cE,List.pairwise_cons]
   refine ⟨fun k hk=>?_,wU⟩
   have:=ym hk
   have:=t.dB
   omega
theorem LX {l:List Nd} {ks:List Nat} {k:Nat} (hp:ks.Pairwise (· < ·)) (hk:k ∈ ks):∃ n,mI l (jr l k) ks=some n/\n ∈ ks/\n <= k/\jr l n=jr l k:=by
 cases hf:mI l (jr l k) ks with
 | none =>
   have:=List.find?_eq_none.1 hf k hk
   simp at this
 | some n =>
   obtain ⟨h1,l1,l2,h2,h3⟩:=List.find?_eq_some_iff_append.1 hf
   have h1:jr l n=jr l k:=by simpa using h1
   refine ⟨n,rfl,by rw [h2]; simp,?_,h1⟩
   rw [h2,fB,cD] at hk
   rcases hk with hk | rfl | hk
   . have:=h3 k hk; simp at this
   . exact dk _
   . rw [h2,List.pairwise_append] at hp
     exact Nat.le_of_lt ((List.pairwise_cons.1 hp.2.1).1 k hk)
theorem abC {v:AV} {l:List Nd} {i o:Nat} {x:Nd} {c:AV} {U:St} {kq:AV->AV->AV->Prop} (h:lC U v l) (hx:l[i]?=some x) (hc:(cG x)[o]?=some c) (hk:∀ p q,kq p q c) :
 ax K (aG (some (43,6)) none v (.int .i64 (i:Nat))) fun p=>ax K (af (some o) p) fun q=>ax K (ah (some (false,1)) q U) (kq p q):=by
 have aO:=(c8.1 hx).1
 obtain ⟨r,hr⟩:=uX hx
 obtain ⟨r',pU⟩:=vq hc r
 rcases h with (⟨rfl,rfl⟩ | ⟨cp,rfl⟩) | ⟨b,rfl,hb⟩
 . simp at aO
 . rw [KJ,gb,hr]
   refine ⟨by omega,?_⟩
   simp only [cU,aC,l9,pU,fi]
   exact hk _ _
 . rw [KK,gb,cV]
   refine ⟨⟨by omega,by omega,rfl⟩,?_⟩
   simp only [bg,aC]
   rw [pI hb,<- List.drop_drop,hr,pU,fi]
   exact hk _ _
section
variable {gv:AV} {r:aD} {k:AV->Prop} {bt:BT} {b:Bool} {x y:Int} {i:IntKind}
theorem xx (hg:gv=.bool true) (h:ax K r k):ai K gv r k:=by rw [hg]; exact qe h
theorem Nv (h:¬ x < y) (hk:k (.bool false)):ax K (ar .lss bt b (.int i x) (.int i y)) k:=by rw [bP,aC,decide_eq_false h]; exact hk
theorem YZ (h:¬ y < x) (hk:k (.bool false)):ax K (ar .gtr bt b (.int i x) (.int i y)) k:=by rw [dO,aC,decide_eq_false h]; exact hk
theorem YY (h:¬ y <= x) (hk:k (.bool false)):ax K (ar .geq bt b (.int i x) (.int i y)) k:=by rw [fO,aC,decide_eq_false h]; exact hk
theorem Y4 (h:x=y) (hk:k (.bool false)):ax K (ar .neq bt b (.int i x) (.int i y)) k:=by rw [c6,aC,decide_eq_true h]; exact hk
theorem Y0 (h:y < x) (hk:k (.bool true)):ax K (ar .gtr bt b (.int i x) (.int i y)) k:=by rw [dO,aC,decide_eq_true h]; exact hk
theorem YX (h:x=y) (hk:k (.bool true)):ax K (ar .eql bt b (.int i x) (.int i y)) k:=by rw [bj,aC,decide_eq_true h]; exact hk
theorem aac {U:St} {K' Kp:AV->St->Prop} (h:x ≠ y) (hk:K' (.bool false) U):(ar .eql bt b (.int i x) (.int i y)).wp K U K' Kp:=by rw [bj,al,decide_eq_false h]; exact hk
theorem aad {U:St} {K' Kp:AV->St->Prop} (h:x=y) (hk:K' (.bool true) U):(ar .eql bt b (.int i x) (.int i y)).wp K U K' Kp:=by rw [bj,al,decide_eq_true h]; exact hk
theorem Y5 {s u:aQ} (h:s=u) (hk:k (.bool true)):ax K (ar .eql bt b (.str s) (.str u)) k:=by rw [ix,aC,decide_eq_true h]; exact hk
theorem Y6 {s u:aQ} (h:s=u) (hk:k (.bool false)):ax K (ar .neq bt b (.str s) (.str u)) k:=by rw [qn,aC,decide_eq_true h]; exact hk
theorem aaf {U:St} {K' Kp:AV->St->Prop} {u w:AV} (hk:K' w U):(bp (.bool false) u w).wp K U K' Kp:=hk
theorem Li {U:St} {K' Kp:AV->St->Prop} {u w:AV} (hk:K' u U):(bp (.bool true) u w).wp K U K' Kp:=hk
theorem QM {v5:AV} {ks:List Nat} {c n e:Nat} {U:St} (hg:gv=.bool true) (hv:dA v5 ks.length (dF ks)) (hx:ks[c]?=some n) (h:k (.int .i64 (n:Nat))) :
 ai K gv (aG (some (e,1)) none v5 (.int .i64 (c:Nat))) fun p=>ai K gv (ah (some (false,1)) p U) k:=by
 subst hg
 simp only [aI,bQ]
 exact Y1 hv hx h
theorem SE {v:AV} {l:List Nd} {n o:Nat} {x:Nd} {c:AV} {U:St} (hg:gv=.bool true) (h:lC U v l) (hx:l[n]?=some x) (hc:(cG x)[o]?=some c) (hk:k c) :
 ai K gv (aG (some (43,6)) none v (.int .i64 (n:Nat))) fun p=>ai K gv (af (some o) p) fun q=>ai K gv (ah (some (false,1)) q U) k:=by
 subst hg
 exact acM h hx hc hk
theorem JK {m:AV} {L l:List AV} {b1 o n:Nat} {U:St} (hg:gv=.bool true) (hb:U.box b1=some L) (hd:L.drop (o+n)=m::l) (h:k m) :
 ai K gv (af (some n) (.box b1 o)) fun p=>ai K gv (ah (some (false,1)) p U) k:=by
 subst hg
 simp only [aI,bQ]
 exact gV (dX hb hd h)
theorem Y3 {v:AV} {n:Nat} {cs:List AV} (h:dA v n cs) (hk:k (.int .i64 n)):ax K (cj (some false) v) k:=by rw [h.len,aC]; exact hk
end
theorem Kc {v:AV} {l:List Nd} (hv:Sl v l):Pure K 9 [.agg [v]] (.bool true):=by
 refine Pure.of (by simp [bY,hv.cl]) rfl (fun U=>rfl) fun R hR=>?_
 refine Vq ?_
 unfold Zr
 rw [er rfl]
 intro b1 fX
 have m1:((bC ⟨.e,0⟩).new b1 (.box (au (.agg [v])))).box b1=some [v]:=aK
 generalize (bC _).new b1 _=ao at *
 intro j hj
 have J1:j (.box b1 0) (.bool true) ao:=hj _ _ _ (df (rp.go (ak.mk (hR _))))
 refine j6 m1 ((PU hv).go ?_)
 simp only [dR,al]
 cases ht:qv l with
 | false =>
   simp only [eA,aU,show (true == false)=false from rfl,aI,bV,nC,aL,if_true,al,bq]
   exact J1
 | true =>
 obtain ⟨hl,iX⟩:=yp.1 ht
 have iX:∀ x ∈ l,x.text.length <= 3000:=fun x hx=>by have:=iX x hx; omega
 have cl:=LG hv (by omega)
 have cv:=IT l
 simp only [cI,aU,gm,aI,bQ,aL,bJ,if_false,al,bH]
 rw [wa m1]
 refine ⟨by simp,?_⟩
 refine cl.go ((ru cv.s cv.c (by omega) iX).go ?_)
 rw [c6,aC]
 by_cases hc:gg l=0
 rotate_left
 . simp only [hc,dN,eA]
   exact J1
 simp only [hc,da,cI]
 refine hj _ _ _ (cO ?_)
 obtain ⟨t,rfl,h1,h2,h9,hd,h24⟩:=LB hc
 clear J1 hj
 obtain ⟨QZ,a,hta⟩:=Nr h1 h2 h9
 have Fx:gQ t.flat 0=0:=by rw [xf]; exact hc
 have hS0:nK t.flat 0=fU t.kids []:=by
  have:=yo (n:=0) Fx (et.whole t)
  rw [show nK t.flat 0=mN t from this]
  unfold mN; rw [if_neg (by simp [h1])]
 refine j6 m1 (cl.go ((MR cv (by omega) iX 0).go ?_))
 simp only [bB,List.drop,bE]
 have gh:s9 t.flat 0=gT t.flat 0:=by unfold s9; rw [if_pos Fx]; rfl
 rw [Fx,gh,c6,al,decide_eq_true rfl]
 refine cO ?_
 refine j6 m1 (cl.go ((KH cv hl iX).go ?_))
 simp only [bB,List.drop,bE]
 rw [hS0]
 have lf:=Q8 (gT t.flat 0)
 have fg:=DF (et.whole t)
 have Q0:=IP (et.whole t)
 have qD:(gT t.flat 0).length=t.kids.length:=by rw [fg,ma]
 have xN:=(et.whole t).kids
 have A0:∀ k ∈ gT t.flat 0,∃ n,mI t.flat (jr t.flat k) (gT t.flat 0)=some n/\n ∈ gT t.flat 0/\n <= k/\jr t.flat n=jr t.flat k:=fun k hk=>LX (by rw [fg]; exact wU) hk
 have jo:∀ k ∈ gT t.flat 0,1 <= k:=fun k hk=>by rw [fg] at hk; exact ym hk
 have Df:∀ {i k:Nat},(gT t.flat 0)[i]?=some k->∃ u,t.kids[i]?=some u/\et t.flat k u:=fun h=>by
  rw [fg] at h; exact rI xN h
 have hfS:∀ s n,mI t.flat s (gT t.flat 0)=some n->qq t.flat s=(n,0):=fun s n h=>by
  unfold qq; rw [if_neg (by simp [hc]),h]
 generalize hK:gT t.flat 0=ks at *
 refine ⟨fun m w1 w3 w5 w6 w7 w8 ad=>∃ (i:Nat) (all:aQ),m=ks.length - i/\i <= ks.length/\w1=.box b1 0/\w3=rz ks/\w5=.str (fU t.kids []).1/\w6=.int .i64 (fU t.kids []).2/\w7=.str all/\w8=.int .i64 (i:Nat)/\ad=ao/\fU t.kids []=fU (t.kids.drop i) all/\all.length <= 2501 * i,⟨_,0,[],rfl,by omega,rfl,rfl,rfl,rfl,rfl,rfl,rfl,rfl,by simp⟩,?_⟩
 rintro m w1 w3 w5 w6 w7 w8 ad ⟨i,all,rfl,hi,rfl,rfl,rfl,rfl,rfl,rfl,rfl,zX,De⟩
 rw [lf.len,al,bP,al]
 refine fI (fun aO=>?_) fun aex=>?_
 . have aO:i < ks.length:=by omega
   obtain ⟨k,hk⟩:∃ k,ks[i]?=some k:=⟨ks[i],by simp [aO]⟩
   have X7:=fj hk
   have X6:=Q0 k X7
   have pv:=jo k X7
   obtain ⟨u,hu,F1⟩:=Df hk
   obtain ⟨hu1,Te,hu3⟩:=QZ u (fj hu)
   obtain ⟨n,SV,wO,hn3,Yf⟩:=A0 k X7
   have SY:=Q0 n wO
   have zl:=jo n wO
   obtain ⟨y,hy⟩:∃ y,t.flat[k]?=some y:=⟨t.flat[k],by simp [X6]⟩
   obtain ⟨z,hz⟩:∃ z,t.flat[n]?=some z:=⟨t.flat[n],by simp [SY]⟩
   rw [tz hy] at SV Yf
   rw [tz hz] at Yf
   have acT:gQ t.flat (k:Nat)=0:=ur hc (by omega)
   have hT:=yo acT F1
   have hT:nK t.flat k=dW u.pr:=by
    rw [hT]; unfold mN
    have:u.kind ≠ 1:=fun h=>by rw [h] at Te; exact absurd Te (by decide)
    rw [if_pos this]
   have vA:t.kids.drop i=u::t.kids.drop (i+1):=by
    have e:t.kids[i]'(by omega)=u:=(c8.1 hu).2
    rw [<- e,<- gl]
   rw [vA,wj] at zX
   have adg:¬ ((k:Int) < 1):=by omega
   have ade:¬ ((t.flat.length:Int) <= k):=by omega
   refine Y1 lf hk (Nv adg (sC rfl rfl (sC rfl rfl (QM rfl lf hk (JK rfl m1 rfl (xx rfl (Y3 hv.s (xx rfl (YY ade (KL (cO ?_)))))))))))
   rw [wa m1]
   refine ⟨by simp,gV (dX m1 rfl (Ty lf hk fun L=>?_))⟩
   refine abC (hv.fh _) hy (show (cG y)[1]?=some (.str y.text) from rfl) fun p q=>?_
   refine cl.go ⟨fun _ _=>rfl,(LW cv (by omega) iX y.text).go ⟨fun _ _=>rfl,?_⟩⟩
   rw [hfS _ _ SV]
   simp only [bB,List.drop,fi]
   have SX:¬ ((k:Int) < n):=by omega
   have adf:¬ ((n:Int) < 1):=by omega
   refine Y4 rfl (sC rfl rfl (sC rfl rfl (sC rfl rfl (QM rfl lf hk (xx rfl (YZ SX (KL (sC rfl rfl (xx rfl (Nv adf (KL ?_)))))))))))
   refine JK rfl m1 rfl (sC rfl rfl (SE rfl (hv.fh _) hz (show (cG z)[1]?=some (.str z.text) from rfl) ?_))
   refine JK rfl m1 rfl (sC rfl rfl (sC rfl rfl (QM rfl lf hk (SE rfl (hv.fh _) hy (show (cG y)[1]?=some (.str y.text) from rfl) ?_))))
   refine xx rfl (Y6 Yf (KL (cO ?_)))
   rw [wa m1]
   refine ⟨by simp,Ty lf hk fun L=>?_⟩
   refine cl.go ⟨fun _ _=>rfl,(D1 cv hl iX k).go ⟨fun _ _=>rfl,?_⟩⟩
   rw [hT]
   simp only [bB,List.drop,fi]
   refine P8 ?_
   by_cases he:(dW u.pr).2=0
   rotate_left
   . rw [if_pos he] at zX
     simp only [he,dN,eA]
     refine df (B1 ?_)
     rw [zX]
     simp only [da,aU,gm,aI,bQ,aC,aL,if_true,al]
     refine mr rp ?_
     exact ak.mk (hR _)
   rw [if_neg (by simp [he])] at zX
   simp only [he,da,cI]
   refine cO ?_
   obtain ⟨e1,_,e2⟩:=D2 he
   rw [Lg]
   refine ⟨by rw [e1,show lR.length=1 from rfl]; omega,?_⟩
   rw [Lg]
   refine ⟨by rw [e1,dh,show lR.length=1 from rfl]; omega,?_⟩
   rw [dr]
   refine ⟨bw (by omega) (by omega),ks.length - (i+1),by omega,i+1,_,rfl,by omega,rfl,rfl,rfl,rfl,rfl,by simp,rfl,?_,?_⟩
   . rw [zX,<- iM]; rfl
   . rw [e1,dh,dh,show lR.length=1 from rfl]; omega
 . have jA:i=ks.length:=by omega
   have vA:t.kids.drop i=[]:=List.drop_eq_nil_of_le (by omega)
   rw [vA,fU] at zX
   rw [zX]
   by_cases hb:2500 < all.length
   . rw [if_pos hb]
     have eH:(2500:Int) < all.length:=by omega
     refine aac (by decide) (zC rfl (zC rfl (zC rfl (aaf (sC rfl rfl (xx rfl (YX rfl (sC rfl rfl (sC rfl rfl (sC rfl rfl (xx rfl (Y0 eH (xx rfl (adK (aaf (xx rfl (mr rp (Li (ak.mk (hR _))))))))))))))))))))
   . rw [if_neg hb]
     refine aad rfl (sC rfl rfl (sC rfl rfl (xx rfl (Y5 rfl (Li (zC rfl (zC rfl (zC rfl (zC rfl (zC rfl (zC rfl (zC rfl (Li (xx rfl (mr rp (Li (ak.mk (hR _))))))))))))))))))
end Go.Rip
