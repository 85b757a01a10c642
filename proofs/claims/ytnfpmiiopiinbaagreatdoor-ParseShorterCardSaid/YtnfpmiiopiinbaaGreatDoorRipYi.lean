/- Lemmas for the proof: no conditions. -/
import Derived.Test.YtnfpmiiopiinbaaGreatDoorRipZz
import Derived.Test.YtnfpmiiopiinbaaGreatDoorRipYh
import Derived.Test.YtnfpmiiopiinbaaGreatDoorRipYf
import Derived.Test.YtnfpmiiopiinbaaGreatDoorRipE
import Derived.Test.YtnfpmiiopiinbaaGreatDoorRipP
import Derived.Test.YtnfpmiiopiinbaaGreatDoorRipYc
import Derived.Test.YtnfpmiiopiinbaaGreatDoorRipF
import Derived.Test.YtnfpmiiopiinbaaGreatDoorRipYb
import Derived.Test.YtnfpmiiopiinbaaGreatDoorRipX
import Derived.Test.YtnfpmiiopiinbaaGreatDoorRipI
import Derived.Test.YtnfpmiiopiinbaaGreatDoorRipAw
set_option linter.unusedVariables false
set_option linter.unusedSimpArgs false
set_option linter.loopingSimpArgs false
namespace Go.Rip
open Go.Proofs Go.RowKit
theorem yz {x:Tx} (h:mH x):x.2.length <= 12:=by
 have key:∀ w ∈ k0++iN,w.length <= 12:=by decide
 rcases qZ h.2 with k | k | k | k
 . exact k.2.2.1
 . have:=vw h.1 (Cv (by rw [h.2,k.1]) h.1); omega
 . exact key _ (List.mem_append_left _ k.2)
 . exact key _ (List.mem_append_right _ k.2)
def za (s:aG):List AV:=s.map fun c=>.int .u8 c.toNat
def Fz (U ad:St):Prop:=∀ c x,U.live c=some x->(∀ t,x=.tok t->t.e ≠ 51)->ad.live c=some x
def EY (b:Nat) (U ad:St):Prop:=∀ c x,c ≠ b->U.live c=some x->(∀ t,x ≠ .tok t)->ad.live c=some x
section
variable {b c:Nat} {U au aR ad:St} {s t:aG} {R:cY->St->Prop}
theorem Fz.refl (U:St):Fz U U:=fun _ _ h _=>h
theorem Fz.trans (h:Fz U aR) (k:Fz aR ad):Fz U ad:=fun c x e t=>k c x (h c x e t) t
theorem Fz.mW (h:dm U ad):Fz U ad:=fun c x e _=>h c x e
theorem Fz.fr (h:Fz U ad):EY b U ad:=fun c x _ e t=>h c x e fun t' e'=>absurd e' (t t')
theorem EY.bg (h:EY b U ad) (n:c ≠ b) {y:List AV} (k:U.box c=some y):ad.box c=some y:=by
 cases e:U.live c with
 | none=>simp [St.box,e] at k
 | some x =>
   rw [dD ((h c x n e ?_).trans e.symm)]; exact k
   intro t ht
   subst ht
   simp [St.box,e] at k
theorem EY.loop (h:EY b U ad) (n:c ≠ b) {L:fL} (k:U.loop c=some L):ad.loop c=some L:=by
 cases e:U.live c with
 | none=>simp [St.loop,e] at k
 | some x =>
   rw [gq ((h c x n e ?_).trans e.symm)]; exact k
   intro t ht
   subst ht
   simp [St.loop,e] at k
theorem Fz.bg (h:Fz U ad) {y:List AV} (k:U.box c=some y):ad.box c=some y:=(h.fr (b:=c+1)).bg (by omega) k
theorem Fz.loop (h:Fz U ad) {L:fL} (k:U.loop c=some L):ad.loop c=some L:=(h.fr (b:=c+1)).loop (by omega) k
theorem Fz.tok (h:Fz U ad) {t:Tok} (ht:t.e ≠ 51) (k:U.tok c=some t):ad.tok c=some t:=by
 cases e:U.live c with
 | none=>simp [St.tok,e] at k
 | some x =>
   rw [mT ((h c x e ?_).trans e.symm)]; exact k
   intro t' qQ
   subst qQ
   simp [St.tok,e] at k
   subst k
   exact ht
def NK (au:St) (c:Nat):Prop:=∀ x,au.live c=some x->∃ t,x=.tok t/\t.e=51
theorem NK.of (h:au.live c=none):NK au c:=fun x e=>by rw [h] at e; cases e
theorem Fz.nk (h:Fz au U) (k:U.live c=none):NK au c:=fun x e=>by
 refine Classical.not_not.1 fun hn=>?_
 have:=h c x e fun t ht e51=>hn ⟨t,ht,e51⟩
 rw [k] at this; cases this
theorem NK.ne {d:Nat} {x:Live} (h:NK au c) (e:au.live d=some x) (ht:∀ t,x=.tok t->t.e ≠ 51):d ≠ c:=by
 rintro rfl
 obtain ⟨t,h1,h2⟩:=h x e
 exact ht t h1 h2
theorem Fz.jd {bh:St} (h:Fz au U) (n:NK au c) (hs:∀ d,d ≠ c->bh.live d=U.live d):Fz au bh:=fun d x e ht=>by
 rw [hs d (n.ne e ht)]; exact h d x e ht
structure Bu (au U:St) (b:Nat) (s:aG):Prop where
 at_:(s=[]/\(U.live b=some (.tG 158 [.aW,.aq])\/U.box b=some [.box b 0,.aq]))\/(s ≠ []/\∃ τ,U.box b=some [.box b 0,.vec s.length (.own τ) (za s)]/\U.tok τ=some ⟨s.length,5,1⟩/\NK au τ)
 new:NK au b
 fz:Fz au U
theorem Bu.mono (h:Bu au U b s) (e:Fz U ad):Bu au ad b s:=by
 refine ⟨?_,h.new,h.fz.trans e⟩
 rcases h.at_ with ⟨h0,h | h⟩ | ⟨h0,τ,h,k,k2⟩
 . exact .inl ⟨h0,.inl (e _ _ h fun t e=>by cases e)⟩
 . exact .inl ⟨h0,.inr (e.bg h)⟩
 . exact .inr ⟨h0,τ,e.bg h,e.tok (show (5:Nat) ≠ 51 by decide) k,k2⟩
theorem Bu.jd {o:Nat} {z:fL} {bh:St} (h:Bu au U b s) (hn:NK au o) (ho:U.loop o=some z) (hs:∀ c,c ≠ o->bh.live c=U.live c):Bu au bh b s:=by
 have hbo:b ≠ o:=by
  rintro rfl
  rcases h.at_ with ⟨_,h | h⟩ | ⟨_,τ,h,_⟩
  . unfold St.loop at ho; rw [h] at ho; cases ho
  . exact bP h ho rfl
  . exact bP h ho rfl
 refine ⟨?_,h.new,h.fz.jd hn hs⟩
 rcases h.at_ with ⟨h0,h | h⟩ | ⟨h0,τ,h,k,k2⟩
 . exact .inl ⟨h0,.inl (by rw [hs b hbo]; exact h)⟩
 . exact .inl ⟨h0,.inr (by rw [dD (hs b hbo)]; exact h)⟩
 . exact .inr ⟨h0,τ,by rw [dD (hs b hbo)]; exact h,by rw [mT (hs τ (sM k ho))]; exact k,k2⟩
def Wb (au:St) (v:AV):Prop:=∀ n τ l,v=.vec n (.own τ) l->NK au τ
theorem Hw {K':AV->St->Prop} {Kp:AV->St->Prop} (h:Bu au U b s) (hk:∀ ad v,(∀ c,c ≠ b->ad.live c=U.live c)->ad.box b=some [.box b 0,v]->Grow ad v 5 1 s.length (za s)->(s.length=0->v=.aq)->Wb au v->Fz au ad->K' (.aH []) ad):ae K 190 [.box b 0] U (ag K' Kp):=by
 rcases h.at_ with ⟨h0,h' | h'⟩ | ⟨h0,τ,h',k,k2⟩
 . subst h0
   exact u1 h' (hk _ _ (fun c hc=>mB hc) a7 (.inl ⟨rfl,rfl,rfl⟩) (fun _=>rfl) (fun _ _ _ e=>by cases e) (h.fz.jd h.new fun c hc=>mB hc))
 . subst h0
   exact sc h' (hk U _ (fun c _=>rfl) h' (.inl ⟨rfl,rfl,rfl⟩) (fun _=>rfl) (fun _ _ _ e=>by cases e) h.fz)
 . refine sc h' (hk U _ (fun c _=>rfl) h' (.inr ⟨τ,rfl,k,by simp [za]⟩) (fun e=>absurd (sw.1 e) h0) (fun _ _ _ e=>?_) h.fz)
   simp only [AV.vec.injEq,mg.own.injEq] at e
   rw [<- e.2.1]; exact k2
theorem OQ {y v:AV} {K':AV->St->Prop} {Kp:AV->St->Prop} (ht:t ≠ []) (hy:rI U y=some (t.length,za t)) (hb:U.box b=some [.box b 0,v]) (hg:Grow U v 5 1 s.length (za s)) (h0:s.length=0->v=.aq) (hl:s.length+t.length <= 4294967296) (hn:Wb au v) (hf:Fz au U)
 (hk:∀ aR v',Grow aR v' 5 1 (s++t).length (za (s++t))->aR.box b=some [.box b 0,v]->(∀ c x,U.live c=some x->(∀ t,x ≠ .tok t)->aR.live c=some x)->Wb au v'->Fz au aR->K' v' aR):(eR (some (5,1)) false v y U).wp K U K' Kp:=by
 have sX:0 < t.length:=List.length_pos_iff.2 ht
 refine DY hg hy (by simp [za]) sX hl h0 fun aR v' g e1 n1=>?_
 have rq:∀ c x,U.live c=some x->(∀ t,x ≠ .tok t)->aR.live c=some x:=fun c x hx yS=>e1 c x (fun n l hv=>by
  rcases hg with ⟨_,_,g⟩ | ⟨τ,g,qQ,_⟩
  . rw [g] at hv; cases hv
  . rw [g] at hv; cases hv
    unfold St.tok at qQ
    rw [hx] at qQ
    split at qQ
    . rename_i t' e'; cases e'; exact yS _ rfl
    . cases qQ) hx
 refine hk aR v' (by rw [cM]; simpa [za] using g) ((nT hg e1).1 hb) rq (fun n τ l hv=>?_) fun c x hx yS=>?_
 . rcases n1 n τ l hv with hz | ⟨n2,l2,hv2⟩
   . exact hf.nk hz
   . exact hn _ _ _ hv2
 . exact e1 c x (fun n l hv=>(hn _ _ _ hv).ne hx yS rfl) (hf c x hx yS)
theorem Hx {v v':AV} {K':AV->St->Prop} {Kp:AV->St->Prop} (hs:s ≠ []) (hb:U.box b=some [.box b 0,v]) (g:Grow U v' 5 1 s.length (za s)) (hn:Wb au v') (WC:NK au b) (hf:Fz au U) (hk:∀ aR,Bu au aR b s->(∀ c,c ≠ b->aR.live c=U.live c)->K' (.aH []) aR):(aI (some (false,1)) (.box b 1) v' U).wp K U K' Kp:=by
 rcases g with ⟨h0,_,_⟩ | ⟨τ,rfl,r2,r3⟩
 . exact absurd (sw.1 h0) hs
 rw [dk hb]
 have o6:∀ c,c ≠ b->(U.set b (.box (aA [.box b 0,v] 1 (ax (.vec s.length (.own τ) (za s)))))).live c=U.live c:=fun c hc=>by rw [dQ,if_neg hc]
 exact ⟨⟨rfl,rfl,by simp⟩,hk _ ⟨.inr ⟨hs,τ,by rw [a7]; rfl,by rw [gY (eZ hb r2).symm]; exact r2,hn _ _ _ rfl⟩,WC,hf.jd WC o6⟩ o6⟩
theorem Zb (t:aG):rI U (.str t)=some (t.length,za t):=rfl
theorem Fc {K':AV->St->Prop} {Kp:AV->St->Prop} (ht:t ≠ []) (h:Bu au U b s) (hl:s.length+t.length <= 100000000) (hk:∀ y ad,Bu au ad b (s++t)->EY b U ad->K' y ad):ae K 125 [.box b 0,.str t] U (ag K' Kp):=by
 refine Rr ?_
 unfold Rq
 refine Hw h fun aR v o6 hb hg h0 hn hf=>?_
 simp only [bN,aj]
 refine iz (eO hb rfl ?_)
 refine OQ ht (Zb t) hb hg h0 (by omega) hn hf fun bh v' g2 iW gz C5 Ig=>iz ?_
 refine Hx (s:=s++t) (by simp [ht]) iW g2 C5 h.new Ig fun bW h3 UC=>?_
 show (cE (some true) (AV.str t)).wp K bW _ _
 rw [show cE (some true) (AV.str t)=.val (.int .i64 t.length) from rfl,aj]
 refine al.mk (hk _ _ h3 fun c x hc hx yS=>?_)
 rw [UC c hc]
 exact gz c x (by rw [o6 c hc]; exact hx) yS
theorem X4 {c:UInt8} {K':AV->St->Prop} {Kp:AV->St->Prop} (h:Bu au U b s) (hl:s.length <= 100000) (hk:∀ y ad,Bu au ad b (s++[c])->EY b U ad->K' y ad):ae K 189 [.box b 0,.int .u8 c.toNat] U (ag K' Kp):=by
 refine Sr ?_
 unfold Sq
 refine Hw h fun aR v o6 hb hg h0 hn hf=>?_
 simp only [bN,aj]
 refine iz (eO hb rfl ?_)
 refine Ou rfl rfl ?_
 refine OQ (t:=[c]) (by simp) rfl hb hg h0 (by simp; omega) hn hf fun bh v' g2 iW gz C5 Ig=>iz ?_
 refine Hx (s:=s++[c]) (by simp) iW g2 C5 h.new Ig fun bW h3 UC=>?_
 refine al.mk (hk _ _ h3 fun c x hc hx yS=>?_)
 rw [UC c hc]
 exact gz c x (by rw [o6 c hc]; exact hx) yS
theorem OO {K':AV->St->Prop} {Kp:AV->St->Prop} (h:Bu au U b s) (hk:K' (.int .i64 s.length) U):ae K 126 [.box b 0] U (ag K' Kp):=by
 refine Ru ?_
 unfold Rs
 simp only [bN,aj]
 rcases h.at_ with ⟨h0,h'⟩ | ⟨h0,τ,h',k,_⟩
 . subst h0
   obtain ⟨x,hx⟩:∃ x,U.box b=some [x,.aq]:=by
    rcases h' with h | h
    . exact ⟨.aW,by simp [St.box,h]⟩
    . exact ⟨_,h⟩
   refine iz (eO hx rfl ?_)
   exact al.mk hk
 . refine iz (eO h' rfl ?_)
   exact al.mk hk
theorem OP {K':AV->St->Prop} {Kp:AV->St->Prop} (h:Bu au U b s) (hk:∀ ad,EY b U ad->Fz au ad->K' (.str s) ad):ae K 127 [.box b 0] U (ag K' Kp):=by
 rcases h.at_ with ⟨h0,h'⟩ | ⟨h0,τ,h',k,k2⟩
 . subst h0
   obtain ⟨x,hx⟩:∃ x,U.box b=some [x,.aq]:=by
    rcases h' with h | h
    . exact ⟨.aW,by simp [St.box,h]⟩
    . exact ⟨_,h⟩
   exact sS hx (hk U (fun c x _ hx _=>hx) h.fz)
 . refine wv h0 h' k (hk _ (fun c x _ hx yS=>?_) (h.fz.jd k2 fun c hc=>by rw [kJ,if_neg hc]))
   rw [kJ,if_neg]
   . exact hx
   . rintro rfl
     unfold St.tok at k
     rw [hx] at k
     split at k
     . rename_i t' e'; cases e'; exact yS _ rfl
     . cases k
end
theorem JY {x:Tx} (h:mH x):Pure K 156 [.agg (kx x)] (.bool true):=by
 have hs:=yz h
 refine Pure.of rfl rfl (fun U=>rfl) fun R hR=>?_
 refine RQ ?_
 unfold RP
 rw [hU rfl]
 intro b1 jM
 have m1:((bV ⟨.e,0⟩).new b1 (.box (ax (.agg (kx x))))).box b1=some (kx x):=aK
 generalize (bV _).new b1 _=au at *
 refine iz (eO m1 rfl ((CO x.2 (by omega)).go ?_))
 rw [h.2]
 simp only [JS,bD,List.drop,bC]
 rw [cZ]
 intro b3 lu
 have m3:(au.new b3 (.box [AV.int .u8 0,AV.str [],AV.int .i64 0])).box b3=some [AV.int .u8 0,AV.str [],AV.int .i64 0]:=aK
 have n13:=lu.bX m1
 have m1:=(bB lu (x:=.box [AV.int .u8 0,AV.str [],AV.int .i64 0])).bg m1
 generalize au.new b3 _=aR at *
 rw [dk m3]
 refine ⟨⟨rfl,rfl,by simp⟩,?_⟩
 have m3:(aR.set b3 (.box (aA [AV.int .u8 0,AV.str [],AV.int .i64 0] 0 (ax (.agg [.int .u8 x.1,.str x.2,.int .i64 0]))))).box b3=some (kx x):=by rw [a7]; rfl
 have m1:(aR.set b3 (.box (aA [AV.int .u8 0,AV.str [],AV.int .i64 0] 0 (ax (.agg [.int .u8 x.1,.str x.2,.int .i64 0]))))).box b1=some (kx x):=by rw [aY n13]; exact m1
 generalize aR.set b3 _=bh at *
 simp only [bu,aj,dZ,bj,iJ,aP,cI]
 refine kN (fO m3 rfl (kN (fO m1 rfl ?_)))
 simp only [bu,aJ,dZ,aM,if_true,aj,bj,iJ,aP,cI]
 refine kN (fO m3 rfl (kN (fO m1 rfl ?_)))
 simp only [ln,aJ,dZ,aM,if_true,aj]
 exact al.mk (hR _)
theorem Mv (a b:Tx):Pure K 188 [.agg (kx a),.agg (kx b)] (.bool (fU a b)):=by
 refine Pure.of rfl rfl (fun U=>rfl) fun R hR=>?_
 refine So ?_
 unfold Sn
 rw [hU rfl]
 intro b2 iW
 have m2:((bV ⟨.e,0⟩).new b2 (.box (ax (.agg (kx a))))).box b2=some (kx a):=aK
 generalize (bV _).new b2 _=au at *
 rw [hU rfl]
 intro b3 lu
 have m3:(au.new b3 (.box (ax (.agg (kx b))))).box b3=some (kx b):=aK
 have m2:=(bB lu (x:=.box (ax (.agg (kx b))))).bg m2
 generalize au.new b3 _=aR at *
 have e1:∀ n:Nat,decide ((n:Int)=4)=(n == 4):=fun n=>by
  rw [pW,ee,beq_iff_eq]; omega
 refine iz (eO m2 rfl ?_)
 rw [dS,aj,e1]
 have Fs:=hR
 unfold fU at Fs
 have rest:(a.1 != 4 && b.1 != 4)=false->(af (some 1) (.box b2 0)).wp K aR (fun cz U =>
  (ak (some (false,1)) cz U).wp K U (fun cG U =>
  (aw .eql (BT.mk false false false none false) true cG (AV.str cW)).wp K U (fun cb U =>
  ao K (aL cb true) (af (some 1) (.box b3 0)) (fun dM =>
  ao K (aL cb true) (ak (some (false,1)) dM U) (fun cA =>
  ao K (aL cb true) (aw .eql (BT.mk false false false none false) true cA (AV.str gk)) (fun de =>
  (bM cb de (AV.bool false)).wp K U (fun v20 U =>
  al R v20 U) (aa R))))) (aa R)) (aa R)) (aa R):=by
  intro h0
  rw [h0,Bool.false_or] at Fs
  have e2:∀ s t:aG,decide (s=t)=(s == t):=fun s t=>by
   by_cases h:s=t <;> simp [h]
  refine iz (eO m2 rfl ?_)
  rw [ln,aj,e2]
  cases h1:(a.2 == cW) with
  | true =>
    simp only [bj,iJ,aP,cI]
    refine kN (fO m3 rfl ?_)
    rw [ln,aJ,e2]
    simp only [aM,if_true,aj]
    rw [h1,Bool.true_and] at Fs
    exact al.mk (Fs _)
  | false =>
    simp only [bj,show (false == true)=false from rfl,aP,cC,aM,bQ,if_false,aj]
    rw [h1,Bool.false_and] at Fs
    exact al.mk (Fs _)
 cases h1:(a.1 == 4) with
 | true =>
   simp only [du,bj,show (false == true)=false from rfl,aP,cC,aM,bQ,if_false,aj]
   exact eF (rest (by simp only [bne,h1,du,Bool.false_and]))
 | false =>
   simp only [fD,bj,iJ,aP,cI]
   refine kN (fO m3 rfl ?_)
   rw [dS,aJ,e1]
   simp only [aM,if_true,aj]
   cases h2:(b.1 == 4) with
   | true=>exact eF (rest (by simp only [bne,h1,h2,du,fD,Bool.and_false]))
   | false =>
     refine eH (al.mk ?_)
     have:(a.1 != 4 && b.1 != 4)=true:=by simp only [bne,h1,h2,fD,Bool.and_self]
     rw [this,Bool.true_or] at Fs
     exact Fs _
section
variable {U ad:St} {vl:AV} {l:List Tx} {R:cY->St->Prop}
theorem Tr (l:List Tx) (i:Nat):(ov l).drop (i * 3)=ov (l.drop i):=by
 induction l generalizing i with
 | nil=>simp [ov]
 | cons t l ih =>
   cases i with
   | zero=>simp
   | succ i =>
     rw [Nat.add_mul,show i * 3+1 * 3=3+i * 3 by omega,<- List.drop_drop,List.drop_succ_cons,<- ih]
     rfl
theorem Mn {i:Nat} {x:Tx} (h:l[i]?=some x):∃ r,(ov l).drop (i * 3)=kx x++r:=by
 rw [Tr,ib (dC.1 h).1]
 refine ⟨ov (l.drop (i+1)),?_⟩
 have:=(dC.1 h).2
 simp [ov,this]
theorem acL {i:Nat} {x:Tx} {K':AV->St->Prop} {Kp:AV->St->Prop} (hv:eP vl l.length (ov l)) (hx:l[i]?=some x) (hk:K' (.agg (kx x)) U) :
 (aO (some (51,3)) none vl (.int .i64 (i:Nat))).wp K U (fun p U=>(ak (some (true,3)) p U).wp K U K' Kp) Kp:=by
 have aQ:=(dC.1 hx).1
 obtain ⟨r,hr⟩:=Mn hx
 rcases hv with ⟨h1,_,_⟩ | ⟨c,rfl⟩
 . omega
 . rw [Cz,jH,hr]
   refine ⟨by omega,?_⟩
   rw [uc]
   exact ⟨by simp [kx],hk⟩
theorem afY {i:Nat} {x:Tx} {k:AV->Prop} (hv:eP vl l.length (ov l)) (hx:l[i]?=some x) (hk:k (.agg (kx x))) :
 aB K (aO (some (51,3)) none vl (.int .i64 (i:Nat))) fun p=>aB K (ak (some (true,3)) p U) k:=by
 have aQ:=(dC.1 hx).1
 obtain ⟨r,hr⟩:=Mn hx
 rcases hv with ⟨h1,_,_⟩ | ⟨c,rfl⟩
 . omega
 . rw [afX,jH,hr]
   refine ⟨by omega,?_⟩
   rw [YZ]
   exact ⟨by simp [kx],hk⟩
theorem Zf (hv:eP vl l.length (ov l)) (ho:∀ x ∈ l,mH x) (hl:l.length <= 1000000) (h:∀ ad,dm U ad->R (.ret (.int .i64 (if 900 < l.length then 5 else 0))) ad):ae K 93 [vl] U R:=by
 refine VC ?_
 unfold XA
 rw [hv.len,aj,eQ,aj]
 refine iv (fun h9=>?_) fun h9=>?_
 . rw [if_pos (by omega)] at h
   exact al.mk (h _ (dm.refl U))
 rw [if_neg (by omega)] at h
 rw [aj]
 refine ⟨fun m w8 w9 GC ad=>∃ i:Nat,m=l.length - i/\i <= l.length/\w8=vl/\w9=.int .i64 l.length/\GC=.int .i64 (i:Nat)/\dm U ad,⟨_,0,rfl,by omega,rfl,rfl,rfl,dm.refl U⟩,?_⟩
 rintro m w8 w9 GC aR ⟨i,rfl,hi,rfl,rfl,rfl,e1⟩
 rw [cq,aj]
 refine iv (fun aQ=>?_) fun lI=>al.mk (h _ e1)
 have aQ:i < l.length:=by omega
 obtain ⟨x,hx⟩:∃ x,l[i]?=some x:=⟨l[i],by simp [aQ]⟩
 refine acL hv hx ?_
 rw [cZ]
 intro b4 iw
 have m4:(aR.new b4 (.box [AV.int .u8 0,AV.str [],AV.int .i64 0])).box b4=some [AV.int .u8 0,AV.str [],AV.int .i64 0]:=aK
 have e2:=e1.new iw (x:=.box [AV.int .u8 0,AV.str [],AV.int .i64 0])
 have f4:=e1.fresh iw.1
 generalize aR.new b4 _=bh at *
 rw [dk m4]
 refine ⟨⟨rfl,rfl,by simp [kx]⟩,?_⟩
 have m4:(bh.set b4 (.box (aA [AV.int .u8 0,AV.str [],AV.int .i64 0] 0 (ax (.agg (kx x)))))).box b4=some (kx x):=by rw [a7]; rfl
 have e3:=e2.set f4 (x:=.box (aA [AV.int .u8 0,AV.str [],AV.int .i64 0] 0 (ax (.agg (kx x)))))
 generalize bh.set b4 _=bW at *
 rw [pc m4]
 refine ⟨by simp [kx],(JY (ho x (gr hx))).go ?_⟩
 simp only [eI,aj,du]
 refine eF ?_
 rw [dO]
 exact ⟨bK (by omega) (by omega),l.length - (i+1),by omega,i+1,rfl,by omega,rfl,rfl,by simp,e3⟩
theorem DQ:∀ (l:List Tx) (a b:Tx),cL (l++[a,b])=cL (l++[a])++(if fU a b then [32] else [])++b.2
 | [],a,b=>by simp [cL]
 | [c],a,b=>by simp [cL]
 | c::d::l,a,b=>by
   have:=DQ (d::l) a b
   simp only [gE,ou] at this ⊢
   rw [this]; simp
theorem Gy:∀ (l:List Tx),(∀ x ∈ l,mH x)->(cL l).length <= 13 * l.length
 | [],_=>by simp [cL]
 | [a],h=>by have:=yz (h a (by simp)); simp [cL]; omega
 | a::b::l,h=>by
   have h1:=yz (h a (by simp))
   have h2:=Gy (b::l) fun x hx=>h x (by simp only [cJ] at hx ⊢; exact .inr hx)
   rw [ou,cM,cM]
   have:(if fU a b=true then [(32:UInt8)] else []).length <= 1:=by split <;> simp
   simp only [fm] at h2 ⊢
   omega
end
end Go.Rip
namespace Go.Rip
open Go.Proofs Go.RowKit
section
variable {U ad:St} {vl:AV} {l:List Tx} {R:cY->St->Prop}
theorem VO (hv:eP vl l.length (ov l)) (ho:∀ x ∈ l,mH x) (hl:l.length <= 1000000) (h:∀ ad,Fz U ad->R (.ret (.aH [.str (eY l).1,.int .i64 (eY l).2])) ad):ae K 124 [vl] U R:=by
 refine Rp ?_
 unfold Rm
 refine Zf hv ho hl fun aR e1=>?_
 rw [bE,dS,aj]
 by_cases h9:900 < l.length
 . have hE:eY l=([],5):=by unfold eY; rw [if_pos h9]
   rw [if_pos h9]
   simp only [show decide ((5:Int)=0)=false from rfl,fD]
   refine eH (al.mk ?_)
   rw [hE] at h
   exact h _ (.mW e1)
 rw [if_neg h9]
 simp only [dZ,du]
 refine eF ?_
 rw [kV]
 intro b5 kQ
 rw [show NV.at b5 .box=AV.box b5 0 from rfl]
 have hB:Bu aR (aR.new b5 (.tG 158 [.aW,.aq])) b5 []:=⟨.inl ⟨rfl,.inl (by rw [mM,if_pos rfl])⟩,.of kQ.1,.mW (bB kQ)⟩
 generalize aR.new b5 _=bh at *
 rw [hv.len,aj]
 have sX:∀ i,(cL (l.take i)).length <= 13 * l.length:=fun i=>by
  have:=Gy (l.take i) fun x hx=>ho x (List.mem_of_mem_take hx)
  rw [List.length_take] at this; omega
 refine ⟨fun m w0 w5 GD w14 w15 ad=>∃ i:Nat,m=l.length - i/\i <= l.length/\vl=w0/\w5=.box b5 0/\vl=GD/\w14=.int .i64 l.length/\w15=.int .i64 (i:Nat)/\Bu aR ad b5 (cL (l.take i)),⟨_,0,rfl,by omega,rfl,rfl,rfl,rfl,rfl,by simpa [cL] using hB⟩,?_⟩
 clear hB
 rintro m w0 w5 GD w14 w15 bW ⟨i,rfl,hi,rfl,rfl,rfl,rfl,rfl,hB⟩
 rw [cq,aj]
 refine iv (fun aQ=>?_) fun lI=>?_
 . have aQ:i < l.length:=by omega
   obtain ⟨x,hx⟩:∃ x,l[i]?=some x:=⟨l[i],by simp [aQ]⟩
   have FA:=ho x (gr hx)
   refine acL hv hx ?_
   rw [cZ]
   intro b7 mU
   have m7:(bW.new b7 (.box [AV.int .u8 0,AV.str [],AV.int .i64 0])).box b7=some [AV.int .u8 0,AV.str [],AV.int .i64 0]:=aK
   have f7:=hB.fz.nk mU.1
   have hB2:=hB.mono (.mW (bB mU (x:=.box [AV.int .u8 0,AV.str [],AV.int .i64 0])))
   have W5:b7 ≠ b5:=by
    rintro rfl
    rcases hB.at_ with ⟨_,h' | h'⟩ | ⟨_,τ,h',_⟩
    . rw [mU.1] at h'; cases h'
    . exact cD h' mU.1
    . exact cD h' mU.1
   have e7:=bB mU (x:=.box [AV.int .u8 0,AV.str [],AV.int .i64 0])
   have adJ:∀ {τ:Nat} {tt:Tok},(bW.new b7 (.box [AV.int .u8 0,AV.str [],AV.int .i64 0])).tok τ=some tt->τ ≠ b7:=fun ht=>(eZ m7 ht).symm
   generalize bW.new b7 _=cN at *
   rw [dk m7]
   refine ⟨⟨rfl,rfl,by simp [kx]⟩,?_⟩
   have W2:(cN.set b7 (.box (aA [AV.int .u8 0,AV.str [],AV.int .i64 0] 0 (ax (.agg (kx x)))))).box b7=some (kx x):=by rw [a7]; rfl
   have hB3:Bu aR (cN.set b7 (.box (aA [AV.int .u8 0,AV.str [],AV.int .i64 0] 0 (ax (.agg (kx x)))))) b5 (cL (l.take i)):=by
    have hs:∀ c,c ≠ b7->(cN.set b7 (.box (aA [AV.int .u8 0,AV.str [],AV.int .i64 0] 0 (ax (.agg (kx x)))))).live c=cN.live c:=fun c hc=>by rw [dQ,if_neg hc]
    refine ⟨?_,hB2.new,hB2.fz.jd f7 hs⟩
    rcases hB2.at_ with ⟨h0,h' | h'⟩ | ⟨h0,τ,h',k,k2⟩
    . exact .inl ⟨h0,.inl (by rw [hs _ W5.symm]; exact h')⟩
    . exact .inl ⟨h0,.inr (by rw [dD (hs _ W5.symm)]; exact h')⟩
    . exact .inr ⟨h0,τ,by rw [dD (hs _ W5.symm)]; exact h',by rw [mT (hs τ (adJ k))]; exact k,k2⟩
   generalize cN.set b7 _=dv at *
   intro j hj
   have tail:∀ (s:aG) (ad:St),Bu aR ad b5 s->ad.box b7=some (kx x)->s++x.2=cL (l.take (i+1))->s.length <= 50000->j vl (.box b5 0) (.box b7 0) vl (.int .i64 l.length) (.int .i64 (i:Nat)) ad:=by
    intro s ad uo m7 e ux
    refine hj _ _ _ _ _ _ _ ?_
    refine iz (eO m7 rfl ?_)
    have Bs:=yz FA
    refine Fc FA.1 uo (by omega) fun y jK afd _=>?_
    rw [dO]
    exact ⟨bK (by omega) (by omega),l.length - (i+1),by omega,i+1,rfl,by omega,rfl,rfl,rfl,rfl,by simp,by rw [<- e]; exact afd⟩
   have pN:l.take (i+1)=l.take i++[x]:=by rw [sx,hx]; rfl
   have hti:=sX i
   rw [eQ,aJ]
   by_cases zw:i=0
   . subst zw
     simp only [show decide ((0:Int) < ((0:Nat):Int))=false from rfl,bj,show (false == true)=false from rfl,aP,cC,aM,bQ,if_false,aJ]
     refine eF (tail _ dv hB3 W2 ?_ (by simp [cL]))
     rw [pN]; simp [cL]
   . obtain ⟨k,rfl⟩:∃ k,i=k+1:=⟨i - 1,by omega⟩
     obtain ⟨y,hy⟩:∃ y,l[k]?=some y:=⟨l[k]'(by omega),by simp [show k < l.length by omega]⟩
     have afF:l.take (k+1)=l.take k++[y]:=by rw [sx,hy]; rfl
     have yV:cL (l.take (k+1+1))=cL (l.take (k+1))++(if fU y x then [32] else [])++x.2:=by
      rw [pN,afF,gi]; exact DQ _ _ _
     have afg:decide ((0:Int) < ((k+1:Nat):Int))=true:=decide_eq_true (by omega)
     simp only [afg,bj,iJ,aP,cI,aJ]
     rw [Xc]
     refine ⟨bK (by omega) (by omega),?_⟩
     have qO:(((k+1:Nat):Int) - 1)=((k:Nat):Int):=by omega
     rw [qO]
     refine afY hv hy ?_
     rw [G9 W2]
     refine ⟨by simp [kx],?_⟩
     rw [show ((kx x).drop 0).take 3=kx x from rfl]
     refine oN (Mv y x) ?_
     simp only [aM,if_true,aJ]
     cases zr:fU y x with
     | true =>
       refine eH ?_
       rw [zr,if_pos rfl] at yV
       refine X4 (c:=32) hB3 (by omega) fun yy nQ hB6 f6=>?_
       refine tail _ nQ hB6 (f6.bg W5 W2) yV.symm (by simp; omega)
     | false =>
       refine eF (tail _ dv hB3 W2 ?_ (by omega))
       rw [zr] at yV
       rw [yV]; simp
 . have hi:i=l.length:=by omega
   subst hi
   rw [tq] at hB
   refine OO hB ?_
   rw [eQ,aj]
   refine iv (fun um=>?_) fun um=>?_
   . have hE:eY l=([],5):=by unfold eY; rw [if_neg h9,if_pos (by omega)]
     rw [hE] at h
     exact al.mk (h _ ((Fz.mW e1).trans hB.fz))
   . have hE:eY l=(cL l,0):=by unfold eY; rw [if_neg h9,if_neg (by omega)]
     rw [hE] at h
     refine OP hB fun cN _ hf=>al.mk (h _ ((Fz.mW e1).trans hf))
end
def kS (ks:List (Int × List Tx)):Nat:=(ks.map fun y=>y.2.length+3).sum
theorem Er {c:Prop} [Decidable c] {A B:List Tx} {n:Nat} (h1:c->A.length <= n) (h2:¬ c->B.length <= n):(if c then A else B).length <= n:=by
 split
 . exact h1 ‹_›
 . exact h2 ‹_›
theorem Cq (w:aG):∀ (ls:List (List Tx)),(cX w ls).length <= (ls.map fun l=>l.length+1).sum
 | []=>by simp [cX]
 | [l]=>by simp [cX]
 | l::m::ls=>by
   have:=Cq w (m::ls)
   rw [cX]
   simp only [cM,fm,eh,List.sum_cons] at this ⊢
   omega
theorem EN (w:aG) (ks:List (Int × List Tx)):(cX w (ks.map (·.2))).length <= kS ks:=by
 refine Nat.le_trans (Cq _ _) ?_
 unfold kS
 induction ks with
 | nil=>simp
 | cons y ks ih=>simp only [eh,List.sum_cons] at ih ⊢; omega
theorem wu (k:Int) (n:Nat) (l:List Tx):(dL k n l).length <= l.length+2:=by
 unfold dL
 split
 . omega
 . simp
theorem abW (ks:List (Int × List Tx)):(cX cn (ks.map fun x=>dL x.1 1 x.2)).length <= kS ks:=by
 refine Nat.le_trans (Cq _ _) ?_
 unfold kS
 induction ks with
 | nil=>simp
 | cons y ks ih =>
   have:=wu y.1 1 y.2
   simp only [eh,List.sum_cons] at ih ⊢; omega
theorem IU (a b:List (Int × List Tx)):kS (a++b)=kS a+kS b:=by simp [kS]
theorem aa6:∀ (ks:List (Int × List Tx)),(ks.getD 0 (0,[])).2.length+(ks.getD 1 (0,[])).2.length+(ks.getD 2 (0,[])).2.length <= kS ks
 | []=>by simp [kS]
 | [a]=>by simp [kS]
 | [a,b]=>by simp [kS]; omega
 | a::b::c::ks=>by simp [kS]; omega
theorem aa4 (w:aG) (ks:List (Int × List Tx)):(cX w ((ks.map (·.2)).take (ks.length - 1))).length+(ks.getD (ks.length - 1) (0,[])).2.length <= kS ks:=by
 cases ks with
 | nil=>simp [cX,kS]
 | cons y r =>
   obtain ⟨q,x,hq⟩:=mC (l:=y::r) (by simp)
   rw [hq]
   have:=EN w q
   have e:(q++[x]).length - 1=q.length:=by simp
   rw [e,IU,List.map_append,List.take_left' (by simp)]
   have:((q++[x]).getD q.length (0,[])).2=x.2:=by simp [nG]
   rw [this]
   have:kS [x]=x.2.length+3:=by simp [kS]
   omega
theorem aa5 (w:aG) (ks:List (Int × List Tx)) (h:2 <= ks.length):(cX w ((ks.map (·.2)).take (ks.length - 2))).length+(ks.getD (ks.length - 2) (0,[])).2.length+(ks.getD (ks.length - 1) (0,[])).2.length <= kS ks:=by
 obtain ⟨q1,y,rfl⟩:=mC (l:=ks) (by omega)
 obtain ⟨q,x,rfl⟩:=mC (l:=q1) (by simp at h; omega)
 have:=EN w q
 have e:(q++[x]++[y]).length - 2=q.length:=by simp
 have e1:(q++[x]++[y]).length - 1=q.length+1:=by simp
 rw [e,e1,IU,IU,gi,List.map_append,List.take_left' (by simp)]
 have h1:((q++([x]++[y])).getD q.length (0,[])).2=x.2:=by simp [nG]
 have h2:((q++([x]++[y])).getD (q.length+1) (0,[])).2=y.2:=by simp [nG]
 rw [h1,h2]
 have:kS [x]=x.2.length+3:=by simp [kS]
 have:kS [y]=y.2.length+3:=by simp [kS]
 omega
theorem N3 {k:Int} {t:aG} {n m:Int} {ks:List (Int × List Tx)} (h34:k=3\/k=4->2 <= ks.length):(aU k t n m ks).length <= 16+kS ks:=by
 have f3:=aa6 ks
 have f1:=aa4 cw ks
 have f0:=EN cw ks
 have fq:=abW ks
 have b0:=fun l=>wu (ks.getD 0 (0,[])).1 l (ks.getD 0 (0,[])).2
 have b1:=fun l=>wu (ks.getD 1 (0,[])).1 l (ks.getD 1 (0,[])).2
 have b2:=fun l=>wu (ks.getD 2 (0,[])).1 l (ks.getD 2 (0,[])).2
 have bl:=fun l=>wu (ks.getD (ks.length - 1) (0,[])).1 l (ks.getD (ks.length - 1) (0,[])).2
 unfold aU
 simp only
 refine Er (fun c=>?_) (fun c2=>Er (fun c=>?_) (fun c34=>?_))
 . simp only [cM,fm,ko]; omega
 . have f2:=aa5 cw ks (h34 c)
   simp only [cM,fm,ko]; omega
 repeat' (refine Er (fun c=>?_) (fun c=>?_))
 all_goals try simp only [cM,fm,ko]
 all_goals first
  | omega
  | (have:=b0 1; have:=b1 1; have:=b2 1; omega)
  | (have:=b0 4; omega)
  | (have:=b0 8; omega)
  | (have:=b0 (if bJ k=5 then 6 else bJ k); have:=b1 (bJ k+1); omega)
  | (have:=bl 1; omega)
theorem UQ {ks:List Tre} (h:dP (ks.map Tre.kind) [⟨.kind 5,0,900⟩,⟨.base,1,1⟩,⟨.term,1,1⟩]=true):2 <= ks.length:=by
 refine Nat.le_of_not_lt fun aQ=>?_
 obtain ⟨ps,a,b,rfl,_⟩:=xY (by omega) h
 simp at aQ; omega
theorem YW {k:Int} {x:aG} {n m a:Int} {ks:List Tre} (ho:(Tre.mk k x n m a ks).ok=true):(Tre.mk k x n m a ks).pr.length <= 16+(ks.map fun t=>t.pr.length+3).sum:=by
 obtain ⟨f,hf,g1,g2,g3⟩:=Tre.rB ho
 rw [Tre.cu]
 have h:=N3 (k:=k) (t:=x) (n:=n) (m:=m) (ks:=ks.map fun t=>(t.kind,t.pr)) (fun h=>by
  have kD:f=⟨true,false,false,[⟨.kind 5,0,900⟩,⟨.base,1,1⟩,⟨.term,1,1⟩]⟩:=by rcases h with rfl | rfl <;> simpa [bA] using hf.symm
  subst kD
  rw [List.length_map]
  exact UQ g2)
 have e:kS (ks.map fun t=>(t.kind,t.pr))=(ks.map fun t=>t.pr.length+3).sum:=by
  unfold kS; rw [List.map_map]; rfl
 rw [e] at h
 exact h
theorem YX:∀ (N:Nat) (ts:List Tre),(Tre.bq ts).length <= N->(∀ t ∈ ts,t.ok=true)->(ts.map fun t=>t.pr.length+3).sum <= 19 * (Tre.bq ts).length:=by
 intro N
 induction N with
 | zero =>
   intro ts hN ho
   cases ts with
   | nil=>simp
   | cons t ts=>have:=t.dE; simp only [Tre.cx,cM] at hN; omega
 | succ N ih =>
   intro ts hN ho
   cases ts with
   | nil=>simp
   | cons t ts =>
     have ht:=ho t (by simp)
     have Bk:=mL t
     simp only [Tre.cx,cM] at hN
     have i1:=ih t.kids (by omega) fun c hc=>(Es ht c hc).2
     have i2:=ih ts (by omega) fun c hc=>ho c (by simp [hc])
     have hn:t.pr.length <= 16+(t.kids.map fun t=>t.pr.length+3).sum:=by
      cases t with
      | mk k x n m a ks=>exact YW ht
     rw [Tre.cx,cM,eh,List.sum_cons]
     omega
theorem abN {t:Tre} (ho:t.ok=true):t.pr.length <= 19 * t.flat.length:=by
 have:=YX _ [t] (bT _) (by simpa using ho)
 simp at this
 omega
end Go.Rip
namespace Go.Rip
open Go.Proofs Go.RowKit
section
variable {v:AV} {L:List Nd} {U:St} {R:cY->St->Prop} {s:Tre} {n:Nat}
theorem PS.fz {b:Nat} {au ad:St} {br:List Tx} (h:PS b v au br ad) (hb:NK au b):Fz au ad:=fun c x hx ht=>h.fr c x (hb.ne hx ht) hx ht
theorem Y6 {v:AV} {l:List Nd} (h:Sl v l):v.dh=true/\ax v=[v]:=by
 rcases h.s with ⟨_,_,rfl⟩ | ⟨c,rfl⟩ <;> exact ⟨rfl,rfl⟩
theorem Fz.DK {c:Nat} {au U:St} {x:Live} (h:Fz au U) (n:NK au c):Fz au (U.set c x):=h.jd n fun d hd=>by rw [dQ,if_neg hd]
theorem JQ (hv:Sl v L) (hL:L.length <= 1000) (hz:∀ (i:Nat) (y:Nd),L[i]?=some y->y.size <= 100000) (hs:gn L n s) (h9:s.flat.length <= 900) (ho:s.ok=true) (h1:s.kind ≠ 1)
 (h:∀ ad,Fz U ad->R (.ret (.aH [.str (eY s.pr).1,.int .i64 (eY s.pr).2])) ad):ae K 64 [.agg [v],.int .i64 (n:Nat)] U R:=by
 obtain ⟨x,hx,uy,WT,_⟩:=hs.rh
 have hle:=hs.le
 have nx:=abN ho
 have wL:=Jf hv hL hz _ s n (bT _) hs h9 ho h1
 refine JE ?_
 unfold N9
 rw [hU rfl]
 intro b2 iW
 have m2:(U.new b2 (.box (ax (.agg [v])))).box b2=some [v]:=aK
 have e2:=bB iW (x:=.box (ax (.agg [v])))
 generalize U.new b2 _=au at *
 rw [cZ]
 intro b4 iw
 have m4:(au.new b4 (.box [AV.str []])).box b4=some [.str []]:=aK
 have F5:=iw.bX m2
 have f4:=e2.fresh iw.1
 have e4:=e2.new iw (x:=.box [AV.str []])
 have m2:=(bB iw (x:=.box [AV.str []])).bg m2
 generalize au.new b4 (.box [AV.str []])=aR at *
 rw [cZ]
 intro b5 kQ
 have m5:(aR.new b5 (.box [AV.int .i64 0])).box b5=some [.int .i64 0]:=aK
 have n25:=kQ.bX m2
 have BA:=kQ.bX m4
 have f5:=e4.fresh kQ.1
 have e5:=e4.new kQ (x:=.box [AV.int .i64 0])
 have m2:=(bB kQ (x:=.box [AV.int .i64 0])).bg m2
 have m4:=(bB kQ (x:=.box [AV.int .i64 0])).bg m4
 generalize aR.new b5 (.box [AV.int .i64 0])=bh at *
 refine iz (iz (eO m2 rfl (V7 (hv.jD _) hx (show (dY x)[0]?=some (.int .u8 x.kind) from rfl) ?_)))
 rw [uy,dS,aj,decide_eq_false h1]
 simp only [fD]
 refine eH ?_
 rw [G9 m2]
 refine ⟨by simp,oN Cf ?_⟩
 rw [abL]
 refine aaN [v,.aq,opsV] ?_ ?_
 . obtain ⟨l1,l2⟩:=Y6 hv
   simp [tg,opsV,aA]
 rw [hU rfl]
 intro OG Ia
 have m22:(bh.new OG (.box (ax (.agg [v,.aq,opsV])))).box OG=some [v,.aq,opsV]:=aK
 have n2:=Ia.bX m2
 have en:=bB Ia (x:=.box (ax (.agg [v,.aq,opsV])))
 have afk:NK bh OG:=.of Ia.1
 have hP:PS OG v bh [] (bh.new OG (.box (ax (.agg [v,.aq,opsV])))):=⟨⟨.aq,m22,je.nil (xG _)⟩,.mW en⟩
 have ag4:=Ia.bX m4
 have ag5:=Ia.bX m5
 refine ⟨fun b hb=>?_,?_⟩
 . simp only [eM,gD,cJ,List.not_mem_nil,or_false] at hb
   subst hb
   rw [mM,if_neg n2]
 refine wL _ _ _ _ _ hP (by unfold NT; simp; omega) fun bW h3=>?_
 rw [bE]
 rw [jY] at h3
 have f3:=h3.fz afk
 obtain ⟨⟨vl,iH,hg⟩,_⟩:=h3
 simp only [bN,aj]
 refine iz (eO iH rfl ?_)
 refine VO hg.sl (G7 _ s (bT _) ho) (by omega) fun cN f4'=>?_
 simp only [bE,bD,List.drop,bC]
 have f34:=f3.trans f4'
 have m4:=f34.bg m4
 have m5:=f34.bg m5
 rw [dk m4]
 refine ⟨⟨rfl,rfl,by simp⟩,?_⟩
 rw [dk (show (cN.set b4 _).box b5=some [.int .i64 0] by rw [aY BA.symm]; exact m5)]
 refine ⟨⟨rfl,rfl,by simp⟩,?_⟩
 rw [yo (show ((cN.set b4 (.box (aA [.str []] 0 (ax (.str (eY s.pr).1))))).set b5 (.box (aA [.int .i64 0] 0 (ax (.int .i64 (eY s.pr).2))))).box b4=some [.str (eY s.pr).1] by rw [aY BA,a7]; rfl) rfl]
 rw [yo a7 rfl]
 refine al.mk (h _ ?_)
 have hfz:Fz U cN:=(Fz.mW e5).trans f34
 exact (hfz.DK (.of f4)).DK (.of f5)
theorem rL {t:Tre} {ts:List Tre} {acc:aG}:gj (t::ts) acc=if (eY t.pr).2 ≠ 0 then ([],(eY t.pr).2) else gj ts (acc++(eY t.pr).1++[10]):=rfl
theorem VN (hv:Sl v L) (hL:L.length <= 1000) (hz:∀ (i:Nat) (y:Nd),L[i]?=some y->y.size <= 100000) (hs:gn L n s) (h9:s.flat.length <= 900) (ho:s.ok=true) (h1:s.kind=1)
 (h:∀ ad,Fz U ad->R (.ret (.aH [.str (gj s.kids []).1,.int .i64 (gj s.kids []).2])) ad):ae K 64 [.agg [v],.int .i64 (n:Nat)] U R:=by
 obtain ⟨x,hx,uy,WT,_⟩:=hs.rh
 have hle:=hs.le
 have Bk:=mL s
 have iE:=Es ho
 refine JE ?_
 unfold N9
 rw [hU rfl]
 intro b2 iW
 have m2:(U.new b2 (.box (ax (.agg [v])))).box b2=some [v]:=aK
 have e2:=bB iW (x:=.box (ax (.agg [v])))
 generalize U.new b2 _=au at *
 rw [cZ]
 intro b4 iw
 have m4:(au.new b4 (.box [AV.str []])).box b4=some [.str []]:=aK
 have F5:=iw.bX m2
 have f4:=e2.fresh iw.1
 have e4:=e2.new iw (x:=.box [AV.str []])
 have m2:=(bB iw (x:=.box [AV.str []])).bg m2
 generalize au.new b4 (.box [AV.str []])=aR at *
 rw [cZ]
 intro b5 kQ
 have m5:(aR.new b5 (.box [AV.int .i64 0])).box b5=some [.int .i64 0]:=aK
 have n25:=kQ.bX m2
 have BA:=kQ.bX m4
 have f5:=e4.fresh kQ.1
 have e5:=e4.new kQ (x:=.box [AV.int .i64 0])
 have m2:=(bB kQ (x:=.box [AV.int .i64 0])).bg m2
 have m4:=(bB kQ (x:=.box [AV.int .i64 0])).bg m4
 generalize aR.new b5 (.box [AV.int .i64 0])=bh at *
 refine iz (iz (eO m2 rfl (V7 (hv.jD _) hx (show (dY x)[0]?=some (.int .u8 x.kind) from rfl) ?_)))
 rw [uy,dS,aj,decide_eq_true h1]
 simp only [du]
 refine eF ?_
 rw [kV]
 intro b7 mU
 rw [show NV.at b7 .box=AV.box b7 0 from rfl]
 have hB:Bu U (bh.new b7 (.tG 158 [.aW,.aq])) b7 []:=⟨.inl ⟨rfl,.inl (by rw [mM,if_pos rfl])⟩,.of (e5.fresh mU.1),.mW (e5.new mU)⟩
 have n27:=mU.bX m2
 have W4:=mU.bX m4
 have n57:=mU.bX m5
 have e7:=bB mU (x:=.tG 158 [.aW,.aq])
 have m2:=e7.bg m2
 have m4:=e7.bg m4
 have m5:=e7.bg m5
 generalize bh.new b7 _=bW at *
 refine tV m2 ?_
 refine xZ (n:=n) hv.s hx (bK (by omega) (by omega)) fun bn be bt cN d1 d2 d3 f1 f2 f3 q1 q2 q3 e3=>?_
 rw [bE]
 have n2n:b2 ≠ bn:=fun e=>cD m2 (e ▸ f1)
 have n4n:b4 ≠ bn:=fun e=>cD m4 (e ▸ f1)
 have n4e:b4 ≠ be:=fun e=>cD m4 (e ▸ f2)
 have n4t:b4 ≠ bt:=fun e=>cD m4 (e ▸ f3)
 have n5n:b5 ≠ bn:=fun e=>cD m5 (e ▸ f1)
 have n5e:b5 ≠ be:=fun e=>cD m5 (e ▸ f2)
 have n5t:b5 ≠ bt:=fun e=>cD m5 (e ▸ f3)
 have b7l:bW.live b7 ≠ none:=by
  rcases hB.at_ with ⟨_,h' | h'⟩ | ⟨_,τ,h',_⟩
  . rw [h']; simp
  . exact cD h'
  . exact cD h'
 have n7n:b7 ≠ bn:=fun e=>b7l (e ▸ f1)
 have n7e:b7 ≠ be:=fun e=>b7l (e ▸ f2)
 have n7t:b7 ≠ bt:=fun e=>b7l (e ▸ f3)
 have m2:=e3.bg m2
 have m4:=e3.bg m4
 have m5:=e3.bg m5
 have hB:=hB.mono (.mW e3)
 have Lo:fl L ((n:Int)+x.size) L.length (n+1)=fj (n+1) s.kids:=by
  rw [WT]; exact xW hs
 have sV:s.kids.length <= 900:=by have:=Tre.nS s.kids; omega
 have ret:∀ (ad:St) (a:aG) (e:Int),ad.box b4=some [.str a]->ad.box b5=some [.int .i64 e]->Fz U ad->a=(gj s.kids []).1->e=(gj s.kids []).2->bF (some (false,1)) (.box b4 0) ad fun r0=>bF (some (false,1)) (.box b5 0) ad fun r1=>al R (AV.aH [r0,r1]) ad:=by
  intro ad a e k4 k5 hf ha he
  rw [yo k4 rfl,yo k5 rfl]
  subst ha he
  exact al.mk (h _ hf)
 have put:∀ (ad:St) (a0 a:aG) (e0 e:Int) (Q:St->Prop),ad.box b4=some [.str a0]->ad.box b5=some [.int .i64 e0]->Fz U ad ->
  (∀ jK,jK.box b4=some [.str a]->jK.box b5=some [.int .i64 e]->Fz U jK->(∀ c,c ≠ b4->c ≠ b5->jK.live c=ad.live c)->Q jK)->∀ (P1 P2:AV->St->Prop),(aI (some (false,1)) (.box b4 0) (.str a) ad).wp K ad (fun _ U=>(aI (some (false,1)) (.box b5 0) (.int .i64 e) U).wp K U (fun _ U=>Q U) P2) P1:=by
  intro ad a0 a e0 e Q k4 k5 hf hQ P1 P2
  rw [dk k4]
  refine ⟨⟨rfl,rfl,by simp⟩,?_⟩
  rw [dk (show (ad.set b4 (.box (aA [.str a0] 0 (ax (.str a))))).box b5=some [.int .i64 e0] by rw [aY BA.symm]; exact k5)]
  refine ⟨⟨rfl,rfl,by simp⟩,hQ _ ?_ ?_ ?_ ?_⟩
  . rw [aY BA,a7]; rfl
  . rw [a7]; rfl
  . exact (hf.DK (.of f4)).DK (.of f5)
  . intro c c4 c5
    rw [dQ,if_neg c5,dQ,if_neg c4]
 have fin:∀ (ad:St) (acc:aG),ad.box b4=some [.str []]->ad.box b5=some [.int .i64 0]->Bu U ad b7 acc->gj s.kids []=gj [] acc ->
  ae K 126 [.box b7 0] ad (ag (fun v49 U =>
  (aw .gtr (BT.mk false false false none false) true v49 (AV.int .i64 2500)).wp K U (fun ky U =>
  av ky (
   (aI (some (false,1)) (.box b4 0) (AV.str w_) U).wp K U (fun _ U =>
   (aI (some (false,1)) (.box b5 0) (AV.int .i64 5) U).wp K U (fun _ U =>
   bF (some (false,1)) (.box b4 0) U fun po =>
   bF (some (false,1)) (.box b5 0) U fun Js =>
   al R (AV.aH [po,Js]) U) (aa R)) (aa R)) (
   ae K 127 [.box b7 0] U (ag (fun v51 U =>
   (aI (some (false,1)) (.box b4 0) v51 U).wp K U (fun _ U =>
   (aI (some (false,1)) (.box b5 0) (AV.int .i64 0) U).wp K U (fun _ U =>
   bF (some (false,1)) (.box b4 0) U fun sy =>
   bF (some (false,1)) (.box b5 0) U fun Jt =>
   al R (AV.aH [sy,Jt]) U) (aa R)) (aa R)) (aa R)))) (aa R)) (aa R)):=by
  intro ad acc k4 k5 uo e
  refine OO uo ?_
  rw [eQ,aj]
  refine iv (fun um=>?_) fun um=>?_
  . have hE:gj s.kids []=([],5):=by rw [e,gj,if_pos (by omega)]
    exact put ad [] [] 0 5 _ k4 k5 uo.fz (fun jK j4 j5 hf _=>ret jK [] 5 j4 j5 hf (by rw [hE]) (by rw [hE])) _ _
  . have hE:gj s.kids []=(acc,0):=by rw [e,gj,if_neg (by omega)]
    refine OP uo fun dv zj hf5=>?_
    exact put dv [] acc 0 0 _ (zj.bg W4 k4) (zj.bg n57 k5) hf5 (fun jK j4 j5 hf _=>ret jK acc 0 j4 j5 hf (by rw [hE]) (by rw [hE])) _ _
 have hNL:∀ {ad:St},Fz U ad->∀ {o:Nat},ad.live o=none->NK U o:=fun hf o ho=>hf.nk ho
 refine BF (n:=n) (en:=(n:Int)+x.size)
  (fun o ks ad=>(ad.box bn=some [.int .i64 (n:Nat)]/\ad.box be=some [.int .i64 ((n:Int)+x.size)]/\ad.box bt=some [v])/\(ad.box b2=some [v]/\ad.box b4=some [.str []]/\ad.box b5=some [.int .i64 0])/\NK U o/\∃ acc,Bu U ad b7 acc/\acc.length <= 2501 * ks.length/\gj s.kids []=gj (s.kids.drop ks.length) acc)
  (fun o ad=>NK U o/\Fz U ad/\∃ e,ad.box b4=some [.str []]/\ad.box b5=some [.int .i64 e]/\gj s.kids []=([],e)) hv.s (by omega) (by omega) (by omega)
  (fun o ks ad hI=>hI.1) (fun o ks ad L0 L' hI ho=>?_) (fun o ad L0 L' hJ ho=>?_) (fun ks jD y ad o L1 q hI hy aQ ad0 hnk sV si jB PM WN=>?_) (fun ks ad o L0 iE hI Fq=>?_) (fun ad o L0 hJ Fq=>?_) (fun o L0 ho=>?_)
 . obtain ⟨⟨i1,i2,i3⟩,⟨j2,j4,j5⟩,hn,acc,uo,hl,he⟩:=hI
   have kb:∀ {c y},ad.box c=some y->(ad.set o (.loop L')).box c=some y:=fun h=>by rw [aY (bP h ho)]; exact h
   exact ⟨⟨kb i1,kb i2,kb i3⟩,⟨kb j2,kb j4,kb j5⟩,hn,acc,uo.jd hn ho fun c hc=>by rw [dQ,if_neg hc],hl,he⟩
 . obtain ⟨hn,hf,e,j4,j5,he⟩:=hJ
   have kb:∀ {c y},ad.box c=some y->(ad.set o (.loop L')).box c=some y:=fun h=>by rw [aY (bP h ho)]; exact h
   exact ⟨hn,hf.DK hn,e,kb j4,kb j5,he⟩
 . obtain ⟨⟨i1,i2,i3⟩,⟨j2,j4,j5⟩,hn,acc,uo,hl,he⟩:=hI
   rw [Lo] at si
   obtain ⟨r,hr⟩:=si
   have UB:(fj (n+1) s.kids)[ks.length]?=some jD:=by rw [hr]; simp
   obtain ⟨u,hu,WR⟩:=yx hs.kids UB
   have hum:=gr hu
   obtain ⟨uk1,uok⟩:=iE u hum
   have hut:=Tre.uA hum
   have Nf:s.kids.drop ks.length=u::s.kids.drop (ks.length+1):=by
    rw [ib (dC.1 hu).1,(dC.1 hu).2]
   have ag0:ks.length < s.kids.length:=(dC.1 hu).1
   rw [Nf,rL] at he
   refine tV j2 (JQ hv hL hz WR (by omega) uok uk1 fun dv zj=>?_)
   have i1:=zj.bg i1
   have i2:=zj.bg i2
   have i3:=zj.bg i3
   have j2:=zj.bg j2
   have j4:=zj.bg j4
   have j5:=zj.bg j5
   have uo:=uo.mono zj
   have jB:=zj.loop jB
   simp only [bE,bD,List.drop,bC]
   refine Tw ?_
   by_cases vb:(eY u.pr).2=0
   . simp only [vb,dZ,du]
     refine eF ?_
     rw [if_neg (by simp [vb])] at he
     obtain ⟨t1,t2,t3⟩:=Gw vb
     have hlen:((eY u.pr).1).length <= 2500:=by rw [t1]; exact t3
     rw [aeO]
     refine ⟨by simp [rN]; omega,?_⟩
     refine Fc (by simp [rN]) uo (by simp [rN]; omega) fun yy nQ hB6 f6=>?_
     refine PM nQ ⟨⟨f6.bg n7n.symm i1,f6.bg n7e.symm i2,f6.bg n7t.symm i3⟩,⟨f6.bg n27 j2,f6.bg W4 j4,f6.bg n57 j5⟩,hn,_,hB6,?_,?_⟩ (hz _ _ hy) (f6.loop ?_ jB)
     . simp [rN]; omega
     . rw [he,cM,List.length_singleton]
       congr 1
       simp [rN]
     . rintro rfl
       rcases uo.at_ with ⟨_,h' | h'⟩ | ⟨_,τ,h',_⟩
       . unfold St.loop at jB; rw [h'] at jB; cases jB
       . exact bP h' jB rfl
       . exact bP h' jB rfl
   . simp only [vb,eX,fD]
     refine eH ?_
     rw [if_pos vb] at he
     refine put dv [] [] 0 _ _ j4 j5 uo.fz (fun jK k4 k5 hf o6=>?_) _ _
     refine WN jK ⟨hn,hf,_,k4,k5,he⟩ ?_
     rw [gq (o6 o (bP j4 jB).symm (bP j5 jB).symm)]; exact jB
 . obtain ⟨⟨i1,i2,i3⟩,⟨j2,j4,j5⟩,hn,acc,uo,hl,he⟩:=hI
   have kb:∀ {c y},ad.box c=some y->(ad.del o).box c=some y:=fun h=>by rw [jr (bP h Fq)]; exact h
   rw [Lo] at iE
   have hlen:ks.length=s.kids.length:=by rw [iE,qo]
   rw [hlen,List.drop_length] at he
   exact fin _ acc (kb j4) (kb j5) (uo.jd hn Fq fun c hc=>by rw [kJ,if_neg hc]) he
 . obtain ⟨hn,hf,e,j4,j5,he⟩:=hJ
   have kb:∀ {c y},ad.box c=some y->(ad.del o).box c=some y:=fun h=>by rw [jr (bP h Fq)]; exact h
   exact ret _ [] e (kb j4) (kb j5) (hf.jd hn fun c hc=>by rw [kJ,if_neg hc]) (by rw [he]) (by rw [he])
 . have e:=bB ho (x:=.loop L0)
   exact ⟨⟨e.bg q1,e.bg q2,e.bg q3⟩,⟨e.bg m2,e.bg m4,e.bg m5⟩,hB.fz.nk ho.1,[],hB.mono (.mW e),by simp,by simp⟩
end
end Go.Rip
namespace Go.Rip
open Go.Proofs Go.RowKit
section
variable {U:St} {R:cY->St->Prop} {v:AV} {l:List Nd} {p:Int} {g:FuncId} {fs cs:List AV}
theorem ach (hv:Sl v l) (hl:l.length <= 10000) (qR:∀ x ∈ l,x.text.length <= 3000) (hg:fw K.P g=true)
 (h0:nq l p ≠ 0->∀ ad,dm U ad->R (.ret (.aH [.str [],.int .i64 (nq l p)])) ad)
 (h1:nq l p=0->∀ ad,dm U ad->ae K g (fs++[.agg [v]]++cs) ad (Wc R (.str []))):ae K 62 [.agg [v],.int .i64 p,.func (.func g) fs cs] U R:=by
 refine Vt ?_
 unfold Xr
 rw [hU rfl]
 intro b1 jM
 have m1:(U.new b1 (.box (ax (.agg [v])))).box b1=some [v]:=aK
 have e1:=bB jM (x:=.box (ax (.agg [v])))
 generalize U.new b1 _=aR at *
 refine tV m1 ((MI hv.s hv.c hl qR).go ?_)
 rw [dS,aj]
 by_cases hc:gp l=0
 rotate_left
 . simp only [hc,eX,fD]
   refine eH (al.mk ?_)
   rw [<- xy (p:=p) hc]
   exact h0 (by rw [xy hc]; exact hc) _ e1
 simp only [hc,dZ,du]
 refine eF (iz (eO m1 rfl ?_))
 rw [hv.s.len,aj,mJ,ij,wp_cond,aj]
 refine ⟨bK (by omega) (by omega),V8 ?_⟩
 simp only [eI,aj]
 by_cases hp:0 <= p/\p <= (l.length:Int) - 1
 rotate_left
 . simp only [hp,eX,fD]
   refine eH (al.mk ?_)
   have:=TH hc hp
   rw [<- this]
   exact h0 (by rw [this]; decide) _ e1
 simp only [hp,and_self,dZ,du]
 refine eF (tV m1 (pM [v] rfl ?_))
 rw [acN hg]
 exact Yd (h1 (D9 hc hp) _ e1)
end
noncomputable def lf (l:List Nd) (p:Int):aG × Int:=if nq l p ≠ 0 then ([],nq l p) else match Cu ((l.drop p.toNat).take (gw l p.toNat)) with | some s=>mZ s | none=>([],0)
theorem Gv {l:List Nd} {p:Int} (h:nq l p ≠ 0):lf l p=([],nq l p):=by unfold lf; rw [if_pos h]
theorem Ai {t s:Tre} {n:Nat} (h:nq t.flat n=0) (hs:gn t.flat n s):lf t.flat n=mZ s:=by
 have fh:=Oa hs
 unfold lf
 rw [if_neg (by simp [h]),jH,fh]
 obtain ⟨r,hr⟩:=hs
 rw [hr,List.take_left,Gz]
theorem Of {s:Tre} (h:(mZ s).2 ≠ 0):(mZ s).1=[]:=by
 have e1:∀ l:List Tx,(eY l).2 ≠ 0->(eY l).1=[]:=fun l h=>by
  unfold eY at h ⊢
  repeat' split
  all_goals first
   | rfl
   | (exfalso; simp_all)
 have e2:∀ (ts:List Tre) (acc:aG),(gj ts acc).2 ≠ 0->(gj ts acc).1=[]:=by
  intro ts
  induction ts with
  | nil=>intro acc h; unfold gj at h ⊢; split <;> simp_all
  | cons t ts ih =>
    intro acc h
    rw [rL] at h ⊢
    split
    . rfl
    . rename_i h'
      rw [if_neg h'] at h
      exact ih _ h
 unfold mZ at h ⊢
 split
 . rename_i h'; rw [if_pos h'] at h; exact e1 _ h
 . rename_i h'; rw [if_neg h'] at h; exact e2 _ _ h
theorem Tl {v:AV} {l:List Nd} (hv:Sl v l) (hl:l.length <= 1000) (qR:∀ x ∈ l,x.text.length <= 3000) (p:Int):Pure K 28 [.agg [v],.int .i64 p] (.aH [.str (lf l p).1,.int .i64 (lf l p).2]):=by
 refine Pure.of (by simp [cT,hv.cl,show closed (.int .i64 p)=true from rfl]) rfl (fun U=>rfl) fun R hR=>?_
 refine Vl ?_
 unfold Xj
 rw [hU rfl]
 intro b1 jM
 have m1:((bV ⟨.e,0⟩).new b1 (.box (ax (.agg [v])))).box b1=some [v]:=aK
 generalize (bV _).new b1 _=au at *
 rw [hU rfl]
 intro b2 iW
 have m2:(au.new b2 (.box (ax (.int .i64 p)))).box b2=some [.int .i64 p]:=aK
 have m1:=(bB iW (x:=.box (ax (.int .i64 p)))).bg m1
 generalize au.new b2 (.box (ax (.int .i64 p)))=aR at *
 refine tV m1 (eO m2 rfl ?_)
 have fin:∀ (x:aG) (e:Int) (ad:St),x=(lf l p).1->e=(lf l p).2->ag (fun v9 U=>(aX v9 0).wp K U (fun v10 U=>(aX v9 1).wp K U (fun v11 U=>al R (AV.aH [v10,v11]) U) (aa R)) (aa R)) (aa R) (.ret (.aH [.str x,.int .i64 e])) ad:=by
  intro x e ad hx he
  subst hx he
  simp only [bE,bD,List.drop,bC]
  exact al.mk (hR _)
 refine ach (fs:=[]) (cs:=[.box b2 0]) hv (by omega) qR (by kernel_rfl) (fun ha bh e2=>?_) (fun ha bh e2=>?_)
 . exact fin _ _ _ (by rw [Gv ha]) (by rw [Gv ha])
 have m2:=e2.bg m2
 obtain ⟨n,t,s,rfl,rfl,h1,h2,h3,hs⟩:=OB ha
 have hS:=Ai ha hs
 have hle:=hs.le
 have Il:t.flat.length <= 900:=by
  refine Nat.le_of_not_lt fun h'=>?_
  have:nq t.flat n ≠ 0:=by
   have hc:gp t.flat=5:=by unfold gp; rw [if_pos h']
   rw [xy (by rw [hc]; decide),hc]; decide
  exact this ha
 have cO:s.ok=true:=by
  obtain ⟨s',eU,ID⟩:=xj _ [t] 0 (bT _) (show re t.flat 0 [t] from ⟨[],by simp⟩) n (by omega) (by simpa using h3)
  rw [hs.inj eU]
  exact ID (by simp [h2])
 have hz:∀ (i:Nat) (y:Nd),t.flat[i]?=some y->y.size <= 100000:=fun i y hy=>by have:=MY.2.2 i y hy; omega
 have key:∀ Rt:cY->St->Prop,(∀ ad,Rt (.ret (.aH [.str (mZ s).1,.int .i64 (mZ s).2])) ad)->ae K 63 [.agg [v],.box b2 0] bh Rt:=by
  intro Rt Wn
  refine Vu ?_
  unfold Xs
  rw [hU rfl]
  intro b3 lu
  have m3:(bh.new b3 (.box (ax (.agg [v])))).box b3=some [v]:=aK
  have m2:=(bB lu (x:=.box (ax (.agg [v])))).bg m2
  generalize bh.new b3 _=bW at *
  refine tV m3 (eO m2 rfl ?_)
  by_cases hk:s.kind=1
  . have:mZ s=gj s.kids []:=by unfold mZ; rw [if_neg (by simp [hk])]
    rw [this] at Wn
    refine VN hv hl hz hs (by omega) cO hk fun ad _=>?_
    simp only [bE,bD,List.drop,bC]
    exact al.mk (Wn _)
  . have:mZ s=eY s.pr:=by unfold mZ; rw [if_pos hk]
    rw [this] at Wn
    refine JQ hv hl hz hs (by omega) cO hk fun ad _=>?_
    simp only [bE,bD,List.drop,bC]
    exact al.mk (Wn _)
 refine key _ fun ad=>⟨_,_,rfl,fun cr=>fin _ _ _ ?_ (by rw [hS]),fun he=>fin _ _ _ (by rw [hS]) (by rw [hS,he])⟩
 rw [hS,Of cr]
theorem Dy {v:AV} {l:List Nd} (hv:Sl v l) (hl:l.length <= 1000) (qR:∀ x ∈ l,x.text.length <= 3000):Pure K 25 [.agg [v]] (.aH [.str (lf l 0).1,.int .i64 (lf l 0).2]):=by
 refine Pure.of (by simp [cT,hv.cl]) rfl (fun U=>rfl) fun R hR=>?_
 refine Vj ?_
 unfold Xh
 rw [hU rfl]
 intro b1 jM
 have m1:((bV ⟨.e,0⟩).new b1 (.box (ax (.agg [v])))).box b1=some [v]:=aK
 generalize (bV _).new b1 _=au at *
 refine tV m1 ((Tl hv hl qR 0).go ?_)
 simp only [bD,List.drop,bC]
 exact al.mk (hR _)
end Go.Rip
namespace Go.Rip
theorem KX (l:List Nd):CG l=bz l:=rfl
theorem sT {l:List Nd} (h:gp l=0):∃ t:Tre,l=t.flat/\t.kind=1/\t.ok=true/\t.flat.length <= 900/\t.deep <= 60/\t.kids.length <= 24:=by
 have h9:¬ 900 < l.length:=fun h'=>by unfold gp at h; rw [if_pos h'] at h; cases h
 have:∃ t:Tre,l=t.flat/\t.kind=1/\t.ok=true:=Classical.not_not.1 fun h'=>by rw [tM h9 h'] at h; cases h
 obtain ⟨t,rfl,h1,h2⟩:=this
 refine ⟨t,rfl,h1,h2,by omega,?_⟩
 rw [zd t h9] at h
 unfold BY at h
 rw [if_neg (by simp [h1,h2])] at h
 refine ⟨Nat.le_of_not_lt fun h'=>?_,Nat.le_of_not_lt fun h'=>?_⟩
 . rw [if_pos (.inl h')] at h; cases h
 . rw [if_pos (.inr h')] at h; cases h
theorem vB {t:Tre} (h1:t.kind=1) (h2:t.ok=true) (h9:t.flat.length <= 900):(∀ c ∈ t.kids,c.ok=true/\iY c.kind=true/\c.flat.length <= 900)/\∃ a,t=.mk 1 [] 0 0 a t.kids:=by
 cases t with
 | mk k x n m a ks =>
   obtain rfl:k=1:=h1
   obtain ⟨f,hf,g1,g2,g3⟩:=Tre.rB h2
   obtain rfl:(⟨false,false,false,[⟨.item,0,900⟩]⟩:gl)=f:=by simpa [bA] using hf
   obtain ⟨f1,_,_,_,f5,f6⟩:=ir g1
   obtain rfl:=f1 rfl
   obtain rfl:=f5 rfl
   obtain rfl:=f6 rfl
   obtain ⟨_,hc⟩:=AH g2
   have hlen:(Tre.bq ks).length+1=(Tre.mk 1 [] 0 0 a ks).flat.length:=by rw [Tre.eA]; simp
   exact ⟨fun c rn=>⟨g3 c rn,hc c rn,by have:=Tre.uA (ks:=ks) rn; omega⟩,a,rfl⟩
theorem My {l:List Nd} {s:aG} (hc:gp l=0) (hs:lf l 0=(s,0)):s.length <= 2500/\((∃ u,mx s=(u,0,0)/\CG u=CG l/\gp u=0/\u.length=l.length)\/∃ q:Nat,mx s=([],(q:Int),5)/\iM s=.bad q 5):=by
 obtain ⟨t,rfl,h1,h2,h9,hd,h24⟩:=sT hc
 have ha:nq t.flat (0:Nat)=0:=D9 hc (by have:=t.dE; omega)
 have hS:=Ai (n:=0) ha (gn.whole t)
 have hS:lf t.flat 0=mZ t:=hS
 obtain ⟨hk,a,hta⟩:=vB h1 h2 h9
 have hT:mZ t=gj t.kids []:=by unfold mZ; rw [if_neg (by simp [h1])]
 rw [hS,hT] at hs
 have cO:=JR t.kids [] (by rw [hs])
 rw [hs] at cO
 obtain ⟨e,hl⟩:=cO
 simp only [jY] at e hl
 subst e
 refine ⟨hl,?_⟩
 obtain ⟨k1,k2⟩:=LP (fun c rn=>(hk c rn).1) hl
 by_cases Ut:(gQ t.kids).length <= 900
 . left
   obtain ⟨L,e1,e2⟩:=k1 Ut
   have hLl:(gQ t.kids).length=L.length:=by rw [<- e1]; simp
   obtain ⟨ns,b1,p1⟩:=IQ (L:=L) (E:=(gg t.kids).length) t.kids [] 0 (L.length+1) hk ⟨[],by simp [e1]⟩ (by omega) (by omega)
   simp only [jY] at p1
   have hbz:bz (node 1 [] 0 0 0 ns)=bz t.flat:=by
    rw [hta,Tre.nR]
    exact eS b1
   have hlen:=Hz hbz
   obtain ⟨B4,Pr⟩:=wX e2
   obtain ⟨m,g1,g2,g3⟩:=B8 B4 Pr _ [] 0 0 p1 rS.nil (by omega) (by omega)
   have wM:jt (node 1 [] 0 0 0 ns)=false:=by
    rw [Pk hbz,vT]
    simp; omega
   have hw:¬ (900 < (node 1 [] 0 0 0 ns).length\/jt (node 1 [] 0 0 0 ns)=true):=by
    rw [wM]; simp only [bQ,or_false]; omega
   have CX:=GF g1 (by omega)
   rw [if_neg hw] at CX
   refine ⟨node 1 [] 0 0 0 ns,?_,hbz,CX,hlen⟩
   unfold mx
   rw [e2]
   simp only [p1]
   unfold kU
   rw [if_neg hw]
 . right
   obtain ⟨q,e2⟩:=k2 (by omega)
   exact ⟨q,by unfold mx; rw [e2],e2⟩
end Go.Rip
namespace Go.Rip
open Go.Proofs Go.RowKit
theorem DF {l:List Nd} (h:gp l=0):∀ x ∈ l,x.text.length <= 12:=by
 obtain ⟨t,rfl,_,h2,_⟩:=sT h
 have:=zO (Tre.bq [t]).length [t] (bT _) (by simp [h2])
 simpa using this
end Go.Rip
namespace Go.Rip
open Go.Proofs Go.RowKit
section
variable {gv:AV} {r:aC} {k:AV->Prop} {bt:BT} {b:Bool} {x y:Int} {i:IntKind}
theorem Fl (hg:gv=.bool true) (h:aB K r k):ao K gv r k:=by rw [hg]; exact sv h
theorem QN (h:x=y) (hk:k (.bool true)):aB K (aw .eql bt b (.int i x) (.int i y)) k:=by rw [bu,aJ,decide_eq_true h]; exact hk
theorem acJ {U:St} {K' Kp:AV->St->Prop} (h:x=y) (hk:K' (.bool true) U):(aw .eql bt b (.int i x) (.int i y)).wp K U K' Kp:=by rw [bu,aj,decide_eq_true h]; exact hk
theorem abP {s u:aG} (h:s=u) (hk:k (.bool true)):aB K (aw .eql bt b (.str s) (.str u)) k:=by rw [ln,aJ,decide_eq_true h]; exact hk
theorem EW {U:St} {K' Kp:AV->St->Prop} {u w:AV} (hk:K' u U):(bM (.bool true) u w).wp K U K' Kp:=hk
end
end Go.Rip
