/- Lemmas for the proof: no conditions. -/
import Derived.Test.YtnfpmiiopiinbaaGreatDoorRipZz
import Derived.Test.YtnfpmiiopiinbaaGreatDoorRipYh
import Derived.Test.YtnfpmiiopiinbaaGreatDoorRipYf
import Derived.Test.YtnfpmiiopiinbaaGreatDoorRipE
import Derived.Test.YtnfpmiiopiinbaaGreatDoorRipP
import Derived.Test.YtnfpmiiopiinbaaGreatDoorRipYc
import Derived.Test.YtnfpmiiopiinbaaGreatDoorRipF
import Derived.Test.YtnfpmiiopiinbaaGreatDoorRipYb
import Derived.Test.YtnfpmiiopiinbaaGreatDoorRipX
set_option linter.unusedVariables false
set_option linter.unusedSimpArgs false
set_option linter.loopingSimpArgs false
namespace Go.Rip
open Go.Proofs Go.RowKit
theorem yl {x:Tx} (h:mT x):x.2.length <= 12:=by
 have key:∀ w ∈ ni++ke,w.length <= 12:=by decide
 rcases qX h.2 with k | k | k | k
 . exact k.2.2.1
 . have:=zK h.1 (Cl (by rw [h.2,k.1]) h.1); omega
 . exact key _ (List.mem_append_left _ k.2)
 . exact key _ (List.mem_append_right _ k.2)
def y8 (s:aK):List AV:=s.map fun c=>.int .u8 c.toNat
def Fz (U ad:St):Prop:=∀ c x,U.live c=some x->(∀ t,x=.tok t->t.e ≠ 51)->ad.live c=some x
def EF (b:Nat) (U ad:St):Prop:=∀ c x,c ≠ b->U.live c=some x->(∀ t,x ≠ .tok t)->ad.live c=some x
section
variable {b c:Nat} {U aq aR ad:St} {s t:aK} {R:cR->St->Prop}
theorem Fz.refl (U:St):Fz U U:=fun _ _ h _=>h
theorem Fz.trans (h:Fz U aR) (k:Fz aR ad):Fz U ad:=fun c x e t=>k c x (h c x e t) t
theorem Fz.mg (h:cW U ad):Fz U ad:=fun c x e _=>h c x e
theorem Fz.fr (h:Fz U ad):EF b U ad:=fun c x _ e t=>h c x e fun t' e'=>absurd e' (t t')
theorem EF.aX (h:EF b U ad) (n:c ≠ b) {y:List AV} (k:U.box c=some y):ad.box c=some y:=by
 cases e:U.live c with
 | none=>simp [St.box,e] at k
 | some x =>
   rw [dy ((h c x n e ?_).trans e.symm)]; exact k
   intro t ht
   subst ht
   simp [St.box,e] at k
theorem EF.loop (h:EF b U ad) (n:c ≠ b) {L:fF} (k:U.loop c=some L):ad.loop c=some L:=by
 cases e:U.live c with
 | none=>simp [St.loop,e] at k
 | some x =>
   rw [fM ((h c x n e ?_).trans e.symm)]; exact k
   intro t ht
   subst ht
   simp [St.loop,e] at k
theorem Fz.aX (h:Fz U ad) {y:List AV} (k:U.box c=some y):ad.box c=some y:=(h.fr (b:=c+1)).aX (by omega) k
theorem Fz.loop (h:Fz U ad) {L:fF} (k:U.loop c=some L):ad.loop c=some L:=(h.fr (b:=c+1)).loop (by omega) k
theorem Fz.tok (h:Fz U ad) {t:Tok} (ht:t.e ≠ 51) (k:U.tok c=some t):ad.tok c=some t:=by
 cases e:U.live c with
 | none=>simp [St.tok,e] at k
 | some x =>
   rw [kW ((h c x e ?_).trans e.symm)]; exact k
   intro t' qP
   subst qP
   simp [St.tok,e] at k
   subst k
   exact ht
def NK (aq:St) (c:Nat):Prop:=∀ x,aq.live c=some x->∃ t,x=.tok t/\t.e=51
theorem NK.of (h:aq.live c=none):NK aq c:=fun x e=>by rw [h] at e; cases e
theorem Fz.nk (h:Fz aq U) (k:U.live c=none):NK aq c:=fun x e=>by
 refine Classical.not_not.1 fun hn=>?_
 have:=h c x e fun t ht e51=>hn ⟨t,ht,e51⟩
 rw [k] at this; cases this
theorem NK.ne {d:Nat} {x:Live} (h:NK aq c) (e:aq.live d=some x) (ht:∀ t,x=.tok t->t.e ≠ 51):d ≠ c:=by
 rintro rfl
 obtain ⟨t,h1,h2⟩:=h x e
 exact ht t h1 h2
theorem Fz.iH {a7:St} (h:Fz aq U) (n:NK aq c) (hs:∀ d,d ≠ c->a7.live d=U.live d):Fz aq a7:=fun d x e ht=>by
 rw [hs d (n.ne e ht)]; exact h d x e ht
structure Bu (aq U:St) (b:Nat) (s:aK):Prop where
 at_:(s=[]/\(U.live b=some (.tF 158 [.aY,.ah])\/U.box b=some [.box b 0,.ah]))\/(s ≠ []/\∃ τ,U.box b=some [.box b 0,.vec s.length (.own τ) (y8 s)]/\U.tok τ=some ⟨s.length,5,1⟩/\NK aq τ)
 new:NK aq b
 fz:Fz aq U
theorem Bu.mono (h:Bu aq U b s) (e:Fz U ad):Bu aq ad b s:=by
 refine ⟨?_,h.new,h.fz.trans e⟩
 rcases h.at_ with ⟨h0,h | h⟩ | ⟨h0,τ,h,k,k2⟩
 . exact .inl ⟨h0,.inl (e _ _ h fun t e=>by cases e)⟩
 . exact .inl ⟨h0,.inr (e.aX h)⟩
 . exact .inr ⟨h0,τ,e.aX h,e.tok (show (5:Nat) ≠ 51 by decide) k,k2⟩
theorem Bu.iH {o:Nat} {z:fF} {a7:St} (h:Bu aq U b s) (hn:NK aq o) (ho:U.loop o=some z) (hs:∀ c,c ≠ o->a7.live c=U.live c):Bu aq a7 b s:=by
 have hbo:b ≠ o:=by
  rintro rfl
  rcases h.at_ with ⟨_,h | h⟩ | ⟨_,τ,h,_⟩
  . unfold St.loop at ho; rw [h] at ho; cases ho
  . exact bT h ho rfl
  . exact bT h ho rfl
 refine ⟨?_,h.new,h.fz.iH hn hs⟩
 rcases h.at_ with ⟨h0,h | h⟩ | ⟨h0,τ,h,k,k2⟩
 . exact .inl ⟨h0,.inl (by rw [hs b hbo]; exact h)⟩
 . exact .inl ⟨h0,.inr (by rw [dy (hs b hbo)]; exact h)⟩
 . exact .inr ⟨h0,τ,by rw [dy (hs b hbo)]; exact h,by rw [kW (hs τ (sL k ho))]; exact k,k2⟩
def VH (aq:St) (v:AV):Prop:=∀ n τ l,v=.vec n (.own τ) l->NK aq τ
theorem He {K':AV->St->Prop} {Kp:AV->St->Prop} (h:Bu aq U b s) (hk:∀ ad v,(∀ c,c ≠ b->ad.live c=U.live c)->ad.box b=some [.box b 0,v]->Grow ad v 5 1 s.length (y8 s)->(s.length=0->v=.ah)->VH aq v->Fz aq ad->K' (.aH []) ad):ae K 190 [.box b 0] U (ag K' Kp):=by
 rcases h.at_ with ⟨h0,h' | h'⟩ | ⟨h0,τ,h',k,k2⟩
 . subst h0
   exact uT h' (hk _ _ (fun c hc=>ml hc) aV (.inl ⟨rfl,rfl,rfl⟩) (fun _=>rfl) (fun _ _ _ e=>by cases e) (h.fz.iH h.new fun c hc=>ml hc))
 . subst h0
   exact sc h' (hk U _ (fun c _=>rfl) h' (.inl ⟨rfl,rfl,rfl⟩) (fun _=>rfl) (fun _ _ _ e=>by cases e) h.fz)
 . refine sc h' (hk U _ (fun c _=>rfl) h' (.inr ⟨τ,rfl,k,by simp [y8]⟩) (fun e=>absurd (sv.1 e) h0) (fun _ _ _ e=>?_) h.fz)
   simp only [AV.vec.injEq,lg.own.injEq] at e
   rw [<- e.2.1]; exact k2
theorem Of {y v:AV} {K':AV->St->Prop} {Kp:AV->St->Prop} (ht:t ≠ []) (hy:rJ U y=some (t.length,y8 t)) (hb:U.box b=some [.box b 0,v]) (hg:Grow U v 5 1 s.length (y8 s)) (h0:s.length=0->v=.ah) (hl:s.length+t.length <= 4294967296) (hn:VH aq v) (hf:Fz aq U)
 (hk:∀ aR v',Grow aR v' 5 1 (s++t).length (y8 (s++t))->aR.box b=some [.box b 0,v]->(∀ c x,U.live c=some x->(∀ t,x ≠ .tok t)->aR.live c=some x)->VH aq v'->Fz aq aR->K' v' aR):(eH (some (5,1)) false v y U).wp K U K' Kp:=by
 have tC:0 < t.length:=List.length_pos_iff.2 ht
 refine DK hg hy (by simp [y8]) tC hl h0 fun aR v' g e1 n1=>?_
 have rp:∀ c x,U.live c=some x->(∀ t,x ≠ .tok t)->aR.live c=some x:=fun c x hx yJ=>e1 c x (fun n l hv=>by
  rcases hg with ⟨_,_,g⟩ | ⟨τ,g,qP,_⟩
  . rw [g] at hv; cases hv
  . rw [g] at hv; cases hv
    unfold St.tok at qP
    rw [hx] at qP
    split at qP
    . rename_i t' e'; cases e'; exact yJ _ rfl
    . cases qP) hx
 refine hk aR v' (by rw [df]; simpa [y8] using g) ((nG hg e1).1 hb) rp (fun n τ l hv=>?_) fun c x hx yJ=>?_
 . rcases n1 n τ l hv with hz | ⟨n2,l2,hv2⟩
   . exact hf.nk hz
   . exact hn _ _ _ hv2
 . exact e1 c x (fun n l hv=>(hn _ _ _ hv).ne hx yJ rfl) (hf c x hx yJ)
theorem Hf {v v':AV} {K':AV->St->Prop} {Kp:AV->St->Prop} (hs:s ≠ []) (hb:U.box b=some [.box b 0,v]) (g:Grow U v' 5 1 s.length (y8 s)) (hn:VH aq v') (V9:NK aq b) (hf:Fz aq U) (hk:∀ aR,Bu aq aR b s->(∀ c,c ≠ b->aR.live c=U.live c)->K' (.aH []) aR):(aF (some (false,1)) (.box b 1) v' U).wp K U K' Kp:=by
 rcases g with ⟨h0,_,_⟩ | ⟨τ,rfl,r2,r3⟩
 . exact absurd (sv.1 h0) hs
 rw [cI hb]
 have oU:∀ c,c ≠ b->(U.set b (.box (ay [.box b 0,v] 1 (au (.vec s.length (.own τ) (y8 s)))))).live c=U.live c:=fun c hc=>by rw [dR,if_neg hc]
 exact ⟨⟨rfl,rfl,by simp⟩,hk _ ⟨.inr ⟨hs,τ,by rw [aV]; rfl,by rw [gX (eV hb r2).symm]; exact r2,hn _ _ _ rfl⟩,V9,hf.iH V9 oU⟩ oU⟩
theorem YR (t:aK):rJ U (.str t)=some (t.length,y8 t):=rfl
theorem EP {K':AV->St->Prop} {Kp:AV->St->Prop} (ht:t ≠ []) (h:Bu aq U b s) (hl:s.length+t.length <= 100000000) (hk:∀ y ad,Bu aq ad b (s++t)->EF b U ad->K' y ad):ae K 125 [.box b 0,.str t] U (ag K' Kp):=by
 refine QO ?_
 unfold QN
 refine He h fun aR v oU hb hg h0 hn hf=>?_
 simp only [bS,al]
 refine gj (dY hb rfl ?_)
 refine Of ht (YR t) hb hg h0 (by omega) hn hf fun a7 v' g2 gg gl CY HL=>gj ?_
 refine Hf (s:=s++t) (by simp [ht]) gg g2 CY h.new HL fun bO h3 TZ=>?_
 show (cw (some true) (AV.str t)).wp K bO _ _
 rw [show cw (some true) (AV.str t)=.val (.int .i64 t.length) from rfl,al]
 refine ak.mk (hk _ _ h3 fun c x hc hx yJ=>?_)
 rw [TZ c hc]
 exact gl c x (by rw [oU c hc]; exact hx) yJ
theorem XL {c:UInt8} {K':AV->St->Prop} {Kp:AV->St->Prop} (h:Bu aq U b s) (hl:s.length <= 100000) (hk:∀ y ad,Bu aq ad b (s++[c])->EF b U ad->K' y ad):ae K 189 [.box b 0,.int .u8 c.toNat] U (ag K' Kp):=by
 refine RQ ?_
 unfold RP
 refine He h fun aR v oU hb hg h0 hn hf=>?_
 simp only [bS,al]
 refine gj (dY hb rfl ?_)
 refine NQ rfl rfl ?_
 refine Of (t:=[c]) (by simp) rfl hb hg h0 (by simp; omega) hn hf fun a7 v' g2 gg gl CY HL=>gj ?_
 refine Hf (s:=s++[c]) (by simp) gg g2 CY h.new HL fun bO h3 TZ=>?_
 refine ak.mk (hk _ _ h3 fun c x hc hx yJ=>?_)
 rw [TZ c hc]
 exact gl c x (by rw [oU c hc]; exact hx) yJ
theorem Od {K':AV->St->Prop} {Kp:AV->St->Prop} (h:Bu aq U b s) (hk:K' (.int .i64 s.length) U):ae K 126 [.box b 0] U (ag K' Kp):=by
 refine QR ?_
 unfold QP
 simp only [bS,al]
 rcases h.at_ with ⟨h0,h'⟩ | ⟨h0,τ,h',k,_⟩
 . subst h0
   obtain ⟨x,hx⟩:∃ x,U.box b=some [x,.ah]:=by
    rcases h' with h | h
    . exact ⟨.aY,by simp [St.box,h]⟩
    . exact ⟨_,h⟩
   refine gj (dY hx rfl ?_)
   exact ak.mk hk
 . refine gj (dY h' rfl ?_)
   exact ak.mk hk
theorem Oe {K':AV->St->Prop} {Kp:AV->St->Prop} (h:Bu aq U b s) (hk:∀ ad,EF b U ad->Fz aq ad->K' (.str s) ad):ae K 127 [.box b 0] U (ag K' Kp):=by
 rcases h.at_ with ⟨h0,h'⟩ | ⟨h0,τ,h',k,k2⟩
 . subst h0
   obtain ⟨x,hx⟩:∃ x,U.box b=some [x,.ah]:=by
    rcases h' with h | h
    . exact ⟨.aY,by simp [St.box,h]⟩
    . exact ⟨_,h⟩
   exact sS hx (hk U (fun c x _ hx _=>hx) h.fz)
 . refine we h0 h' k (hk _ (fun c x _ hx yJ=>?_) (h.fz.iH k2 fun c hc=>by rw [kF,if_neg hc]))
   rw [kF,if_neg]
   . exact hx
   . rintro rfl
     unfold St.tok at k
     rw [hx] at k
     split at k
     . rename_i t' e'; cases e'; exact yJ _ rfl
     . cases k
end
theorem Jx {x:Tx} (h:mT x):Pure K 156 [.agg (kh x)] (.bool true):=by
 have hs:=yl h
 refine Pure.of rfl rfl (fun U=>rfl) fun R hR=>?_
 refine Rb ?_
 unfold Ra
 rw [fA rfl]
 intro b1 gQ
 have m1:((bM ⟨.e,0⟩).new b1 (.box (au (.agg (kh x))))).box b1=some (kh x):=aG
 generalize (bM _).new b1 _=aq at *
 refine gj (dY m1 rfl ((CI x.2 (by omega)).go ?_))
 rw [h.2]
 simp only [Js,bu,List.drop,bA]
 rw [cz]
 intro b3 lq
 have m3:(aq.new b3 (.box [AV.int .u8 0,AV.str [],AV.int .i64 0])).box b3=some [AV.int .u8 0,AV.str [],AV.int .i64 0]:=aG
 have n13:=lq.bP m1
 have m1:=(bg lq (x:=.box [AV.int .u8 0,AV.str [],AV.int .i64 0])).aX m1
 generalize aq.new b3 _=aR at *
 rw [cI m3]
 refine ⟨⟨rfl,rfl,by simp⟩,?_⟩
 have m3:(aR.set b3 (.box (ay [AV.int .u8 0,AV.str [],AV.int .i64 0] 0 (au (.agg [.int .u8 x.1,.str x.2,.int .i64 0]))))).box b3=some (kh x):=by rw [aV]; rfl
 have m1:(aR.set b3 (.box (ay [AV.int .u8 0,AV.str [],AV.int .i64 0] 0 (au (.agg [.int .u8 x.1,.str x.2,.int .i64 0]))))).box b1=some (kh x):=by rw [aO n13]; exact m1
 generalize aR.set b3 _=a7 at *
 simp only [br,al,du,bf,gR,aN,cx]
 refine kJ (fK m3 rfl (kJ (fK m1 rfl ?_)))
 simp only [br,aJ,du,aM,if_true,al,bf,gR,aN,cx]
 refine kJ (fK m3 rfl (kJ (fK m1 rfl ?_)))
 simp only [mz,aJ,du,aM,if_true,al]
 exact ak.mk (hR _)
theorem LQ (a b:Tx):Pure K 188 [.agg (kh a),.agg (kh b)] (.bool (oh a b)):=by
 refine Pure.of rfl rfl (fun U=>rfl) fun R hR=>?_
 refine RO ?_
 unfold RN
 rw [fA rfl]
 intro b2 gg
 have m2:((bM ⟨.e,0⟩).new b2 (.box (au (.agg (kh a))))).box b2=some (kh a):=aG
 generalize (bM _).new b2 _=aq at *
 rw [fA rfl]
 intro b3 lq
 have m3:(aq.new b3 (.box (au (.agg (kh b))))).box b3=some (kh b):=aG
 have m2:=(bg lq (x:=.box (au (.agg (kh b))))).aX m2
 generalize aq.new b3 _=aR at *
 have e1:∀ n:Nat,decide ((n:Int)=4)=(n == 4):=fun n=>by
  rw [pU,dS,beq_iff_eq]; omega
 refine gj (dY m2 rfl ?_)
 rw [dp,al,e1]
 have Fa:=hR
 unfold oh at Fa
 have rest:(a.1 != 4 && b.1 != 4)=false->(af (some 1) (.box b2 0)).wp K aR (fun ck U =>
  (aj (some (false,1)) ck U).wp K U (fun ct U =>
  (ax .eql (BT.mk false false false none false) true ct (AV.str ez)).wp K U (fun bZ U =>
  ao K (aP bZ true) (af (some 1) (.box b3 0)) (fun dv =>
  ao K (aP bZ true) (aj (some (false,1)) dv U) (fun cu =>
  ao K (aP bZ true) (ax .eql (BT.mk false false false none false) true cu (AV.str gY)) (fun da =>
  (bQ bZ da (AV.bool false)).wp K U (fun v20 U =>
  ak R v20 U) (aa R))))) (aa R)) (aa R)) (aa R):=by
  intro h0
  rw [h0,Bool.false_or] at Fa
  have e2:∀ s t:aK,decide (s=t)=(s == t):=fun s t=>by
   by_cases h:s=t <;> simp [h]
  refine gj (dY m2 rfl ?_)
  rw [mz,al,e2]
  cases h1:(a.2 == ez) with
  | true =>
    simp only [bf,gR,aN,cx]
    refine kJ (fK m3 rfl ?_)
    rw [mz,aJ,e2]
    simp only [aM,if_true,al]
    rw [h1,Bool.true_and] at Fa
    exact ak.mk (Fa _)
  | false =>
    simp only [bf,show (false == true)=false from rfl,aN,cF,aM,bU,if_false,al]
    rw [h1,Bool.false_and] at Fa
    exact ak.mk (Fa _)
 cases h1:(a.1 == 4) with
 | true =>
   simp only [c8,bf,show (false == true)=false from rfl,aN,cF,aM,bU,if_false,al]
   exact dC (rest (by simp only [bne,h1,c8,Bool.false_and]))
 | false =>
   simp only [eQ,bf,gR,aN,cx]
   refine kJ (fK m3 rfl ?_)
   rw [dp,aJ,e1]
   simp only [aM,if_true,al]
   cases h2:(b.1 == 4) with
   | true=>exact dC (rest (by simp only [bne,h1,h2,c8,eQ,Bool.and_false]))
   | false =>
     refine dP (ak.mk ?_)
     have:(a.1 != 4 && b.1 != 4)=true:=by simp only [bne,h1,h2,eQ,Bool.and_self]
     rw [this,Bool.true_or] at Fa
     exact Fa _
section
variable {U ad:St} {vl:AV} {l:List Tx} {R:cR->St->Prop}
theorem SO (l:List Tx) (i:Nat):(oc l).drop (i * 3)=oc (l.drop i):=by
 induction l generalizing i with
 | nil=>simp [oc]
 | cons t l ih =>
   cases i with
   | zero=>simp
   | succ i =>
     rw [Nat.add_mul,show i * 3+1 * 3=3+i * 3 by omega,<- List.drop_drop,List.drop_succ_cons,<- ih]
     rfl
theorem LH {i:Nat} {x:Tx} (h:l[i]?=some x):∃ r,(oc l).drop (i * 3)=kh x++r:=by
 rw [SO,gT (dx.1 h).1]
 refine ⟨oc (l.drop (i+1)),?_⟩
 have:=(dx.1 h).2
 simp [oc,this]
theorem acp {i:Nat} {x:Tx} {K':AV->St->Prop} {Kp:AV->St->Prop} (hv:eJ vl l.length (oc l)) (hx:l[i]?=some x) (hk:K' (.agg (kh x)) U) :
 (aL (some (51,3)) none vl (.int .i64 (i:Nat))).wp K U (fun p U=>(aj (some (true,3)) p U).wp K U K' Kp) Kp:=by
 have aQ:=(dx.1 hx).1
 obtain ⟨r,hr⟩:=LH hx
 rcases hv with ⟨h1,_,_⟩ | ⟨c,rfl⟩
 . omega
 . rw [Cq,iZ,hr]
   refine ⟨by omega,?_⟩
   rw [tZ]
   exact ⟨by simp [kh],hk⟩
theorem afS {i:Nat} {x:Tx} {k:AV->Prop} (hv:eJ vl l.length (oc l)) (hx:l[i]?=some x) (hk:k (.agg (kh x))) :
 aB K (aL (some (51,3)) none vl (.int .i64 (i:Nat))) fun p=>aB K (aj (some (true,3)) p U) k:=by
 have aQ:=(dx.1 hx).1
 obtain ⟨r,hr⟩:=LH hx
 rcases hv with ⟨h1,_,_⟩ | ⟨c,rfl⟩
 . omega
 . rw [abv,iZ,hr]
   refine ⟨by omega,?_⟩
   rw [Ly]
   exact ⟨by simp [kh],hk⟩
theorem YU (hv:eJ vl l.length (oc l)) (ho:∀ x ∈ l,mT x) (hl:l.length <= 1000000) (h:∀ ad,cW U ad->R (.ret (.int .i64 (if 900 < l.length then 5 else 0))) ad):ae K 93 [vl] U R:=by
 refine Vf ?_
 unfold Xg
 rw [hv.len,al,eY,al]
 refine gZ (fun h9=>?_) fun h9=>?_
 . rw [if_pos (by omega)] at h
   exact ak.mk (h _ (cW.refl U))
 rw [if_neg (by omega)] at h
 rw [al]
 refine ⟨fun m w8 w9 Gk ad=>∃ i:Nat,m=l.length - i/\i <= l.length/\w8=vl/\w9=.int .i64 l.length/\Gk=.int .i64 (i:Nat)/\cW U ad,⟨_,0,rfl,by omega,rfl,rfl,rfl,cW.refl U⟩,?_⟩
 rintro m w8 w9 Gk aR ⟨i,rfl,hi,rfl,rfl,rfl,e1⟩
 rw [cb,al]
 refine gZ (fun aQ=>?_) fun kn=>ak.mk (h _ e1)
 have aQ:i < l.length:=by omega
 obtain ⟨x,hx⟩:∃ x,l[i]?=some x:=⟨l[i],by simp [aQ]⟩
 refine acp hv hx ?_
 rw [cz]
 intro b4 gN
 have m4:(aR.new b4 (.box [AV.int .u8 0,AV.str [],AV.int .i64 0])).box b4=some [AV.int .u8 0,AV.str [],AV.int .i64 0]:=aG
 have e2:=e1.new gN (x:=.box [AV.int .u8 0,AV.str [],AV.int .i64 0])
 have f4:=e1.fresh gN.1
 generalize aR.new b4 _=a7 at *
 rw [cI m4]
 refine ⟨⟨rfl,rfl,by simp [kh]⟩,?_⟩
 have m4:(a7.set b4 (.box (ay [AV.int .u8 0,AV.str [],AV.int .i64 0] 0 (au (.agg (kh x)))))).box b4=some (kh x):=by rw [aV]; rfl
 have e3:=e2.set f4 (x:=.box (ay [AV.int .u8 0,AV.str [],AV.int .i64 0] 0 (au (.agg (kh x)))))
 generalize a7.set b4 _=bO at *
 rw [o5 m4]
 refine ⟨by simp [kh],(Jx (ho x (gh hx))).go ?_⟩
 simp only [ey,al,c8]
 refine dC ?_
 rw [dN]
 exact ⟨bI (by omega) (by omega),l.length - (i+1),by omega,i+1,rfl,by omega,rfl,rfl,by simp,e3⟩
theorem DD:∀ (l:List Tx) (a b:Tx),dh (l++[a,b])=dh (l++[a])++(if oh a b then [32] else [])++b.2
 | [],a,b=>by simp [dh]
 | [c],a,b=>by simp [dh]
 | c::d::l,a,b=>by
   have:=DD (d::l) a b
   simp only [ix,pI] at this ⊢
   rw [this]; simp
theorem Gf:∀ (l:List Tx),(∀ x ∈ l,mT x)->(dh l).length <= 13 * l.length
 | [],_=>by simp [dh]
 | [a],h=>by have:=yl (h a (by simp)); simp [dh]; omega
 | a::b::l,h=>by
   have h1:=yl (h a (by simp))
   have h2:=Gf (b::l) fun x hx=>h x (by simp only [cD] at hx ⊢; exact .inr hx)
   rw [pI,df,df]
   have:(if oh a b=true then [(32:UInt8)] else []).length <= 1:=by split <;> simp
   simp only [gU] at h2 ⊢
   omega
end
end Go.Rip
namespace Go.Rip
open Go.Proofs Go.RowKit
section
variable {U ad:St} {vl:AV} {l:List Tx} {R:cR->St->Prop}
theorem Vr (hv:eJ vl l.length (oc l)) (ho:∀ x ∈ l,mT x) (hl:l.length <= 1000000) (h:∀ ad,Fz U ad->R (.ret (.aH [.str (fy l).1,.int .i64 (fy l).2])) ad):ae K 124 [vl] U R:=by
 refine QM ?_
 unfold QL
 refine YU hv ho hl fun aR e1=>?_
 rw [bB,dp,al]
 by_cases h9:900 < l.length
 . have hE:fy l=([],5):=by unfold fy; rw [if_pos h9]
   rw [if_pos h9]
   simp only [show decide ((5:Int)=0)=false from rfl,eQ]
   refine dP (ak.mk ?_)
   rw [hE] at h
   exact h _ (.mg e1)
 rw [if_neg h9]
 simp only [du,c8]
 refine dC ?_
 rw [kO]
 intro b5 jP
 rw [show NV.at b5 .box=AV.box b5 0 from rfl]
 have hB:Bu aR (aR.new b5 (.tF 158 [.aY,.ah])) b5 []:=⟨.inl ⟨rfl,.inl (by rw [mB,if_pos rfl])⟩,.of jP.1,.mg (bg jP)⟩
 generalize aR.new b5 _=a7 at *
 rw [hv.len,al]
 have tC:∀ i,(dh (l.take i)).length <= 13 * l.length:=fun i=>by
  have:=Gf (l.take i) fun x hx=>ho x (List.mem_of_mem_take hx)
  rw [List.length_take] at this; omega
 refine ⟨fun m w0 w5 Gl w14 w15 ad=>∃ i:Nat,m=l.length - i/\i <= l.length/\vl=w0/\w5=.box b5 0/\vl=Gl/\w14=.int .i64 l.length/\w15=.int .i64 (i:Nat)/\Bu aR ad b5 (dh (l.take i)),⟨_,0,rfl,by omega,rfl,rfl,rfl,rfl,rfl,by simpa [dh] using hB⟩,?_⟩
 clear hB
 rintro m w0 w5 Gl w14 w15 bO ⟨i,rfl,hi,rfl,rfl,rfl,rfl,rfl,hB⟩
 rw [cb,al]
 refine gZ (fun aQ=>?_) fun kn=>?_
 . have aQ:i < l.length:=by omega
   obtain ⟨x,hx⟩:∃ x,l[i]?=some x:=⟨l[i],by simp [aQ]⟩
   have hxo:=ho x (gh hx)
   refine acp hv hx ?_
   rw [cz]
   intro b7 mG
   have m7:(bO.new b7 (.box [AV.int .u8 0,AV.str [],AV.int .i64 0])).box b7=some [AV.int .u8 0,AV.str [],AV.int .i64 0]:=aG
   have f7:=hB.fz.nk mG.1
   have hB2:=hB.mono (.mg (bg mG (x:=.box [AV.int .u8 0,AV.str [],AV.int .i64 0])))
   have WD:b7 ≠ b5:=by
    rintro rfl
    rcases hB.at_ with ⟨_,h' | h'⟩ | ⟨_,τ,h',_⟩
    . rw [mG.1] at h'; cases h'
    . exact cj h' mG.1
    . exact cj h' mG.1
   have e7:=bg mG (x:=.box [AV.int .u8 0,AV.str [],AV.int .i64 0])
   have adu:∀ {τ:Nat} {tt:Tok},(bO.new b7 (.box [AV.int .u8 0,AV.str [],AV.int .i64 0])).tok τ=some tt->τ ≠ b7:=fun ht=>(eV m7 ht).symm
   generalize bO.new b7 _=cG at *
   rw [cI m7]
   refine ⟨⟨rfl,rfl,by simp [kh]⟩,?_⟩
   have Wz:(cG.set b7 (.box (ay [AV.int .u8 0,AV.str [],AV.int .i64 0] 0 (au (.agg (kh x)))))).box b7=some (kh x):=by rw [aV]; rfl
   have hB3:Bu aR (cG.set b7 (.box (ay [AV.int .u8 0,AV.str [],AV.int .i64 0] 0 (au (.agg (kh x)))))) b5 (dh (l.take i)):=by
    have hs:∀ c,c ≠ b7->(cG.set b7 (.box (ay [AV.int .u8 0,AV.str [],AV.int .i64 0] 0 (au (.agg (kh x)))))).live c=cG.live c:=fun c hc=>by rw [dR,if_neg hc]
    refine ⟨?_,hB2.new,hB2.fz.iH f7 hs⟩
    rcases hB2.at_ with ⟨h0,h' | h'⟩ | ⟨h0,τ,h',k,k2⟩
    . exact .inl ⟨h0,.inl (by rw [hs _ WD.symm]; exact h')⟩
    . exact .inl ⟨h0,.inr (by rw [dy (hs _ WD.symm)]; exact h')⟩
    . exact .inr ⟨h0,τ,by rw [dy (hs _ WD.symm)]; exact h',by rw [kW (hs τ (adu k))]; exact k,k2⟩
   generalize cG.set b7 _=di at *
   intro j hj
   have tail:∀ (s:aK) (ad:St),Bu aR ad b5 s->ad.box b7=some (kh x)->s++x.2=dh (l.take (i+1))->s.length <= 50000->j vl (.box b5 0) (.box b7 0) vl (.int .i64 l.length) (.int .i64 (i:Nat)) ad:=by
    intro s ad uh m7 e tB
    refine hj _ _ _ _ _ _ _ ?_
    refine gj (dY m7 rfl ?_)
    have Bo:=yl hxo
    refine EP hxo.1 uh (by omega) fun y iJ ae2 _=>?_
    rw [dN]
    exact ⟨bI (by omega) (by omega),l.length - (i+1),by omega,i+1,rfl,by omega,rfl,rfl,rfl,rfl,by simp,by rw [<- e]; exact ae2⟩
   have ru:l.take (i+1)=l.take i++[x]:=by rw [sw,hx]; rfl
   have hti:=tC i
   rw [eY,aJ]
   by_cases zq:i=0
   . subst zq
     simp only [show decide ((0:Int) < ((0:Nat):Int))=false from rfl,bf,show (false == true)=false from rfl,aN,cF,aM,bU,if_false,aJ]
     refine dC (tail _ di hB3 Wz ?_ (by simp [dh]))
     rw [ru]; simp [dh]
   . obtain ⟨k,rfl⟩:∃ k,i=k+1:=⟨i - 1,by omega⟩
     obtain ⟨y,hy⟩:∃ y,l[k]?=some y:=⟨l[k]'(by omega),by simp [show k < l.length by omega]⟩
     have afx:l.take (k+1)=l.take k++[y]:=by rw [sw,hy]; rfl
     have yM:dh (l.take (k+1+1))=dh (l.take (k+1))++(if oh y x then [32] else [])++x.2:=by
      rw [ru,afx,gn]; exact DD _ _ _
     have ae8:decide ((0:Int) < ((k+1:Nat):Int))=true:=decide_eq_true (by omega)
     simp only [ae8,bf,gR,aN,cx,aJ]
     rw [adZ]
     refine ⟨bI (by omega) (by omega),?_⟩
     have qN:(((k+1:Nat):Int) - 1)=((k:Nat):Int):=by omega
     rw [qN]
     refine afS hv hy ?_
     rw [yb Wz]
     refine ⟨by simp [kh],?_⟩
     rw [show ((kh x).drop 0).take 3=kh x from rfl]
     refine oF (LQ y x) ?_
     simp only [aM,if_true,aJ]
     cases Fb:oh y x with
     | true =>
       refine dP ?_
       rw [Fb,if_pos rfl] at yM
       refine XL (c:=32) hB3 (by omega) fun yy mK hB6 f6=>?_
       refine tail _ mK hB6 (f6.aX WD Wz) yM.symm (by simp; omega)
     | false =>
       refine dC (tail _ di hB3 Wz ?_ (by omega))
       rw [Fb] at yM
       rw [yM]; simp
 . have hi:i=l.length:=by omega
   subst hi
   rw [tn] at hB
   refine Od hB ?_
   rw [eY,al]
   refine gZ (fun wv=>?_) fun wv=>?_
   . have hE:fy l=([],5):=by unfold fy; rw [if_neg h9,if_pos (by omega)]
     rw [hE] at h
     exact ak.mk (h _ ((Fz.mg e1).trans hB.fz))
   . have hE:fy l=(dh l,0):=by unfold fy; rw [if_neg h9,if_neg (by omega)]
     rw [hE] at h
     refine Oe hB fun cG _ hf=>ak.mk (h _ ((Fz.mg e1).trans hf))
end
def kS (ks:List (Int × List Tx)):Nat:=(ks.map fun y=>y.2.length+3).sum
theorem D9 {c:Prop} [Decidable c] {A B:List Tx} {n:Nat} (h1:c->A.length <= n) (h2:¬ c->B.length <= n):(if c then A else B).length <= n:=by
 split
 . exact h1 ‹_›
 . exact h2 ‹_›
theorem Ch (w:aK):∀ (ls:List (List Tx)),(dz w ls).length <= (ls.map fun l=>l.length+1).sum
 | []=>by simp [dz]
 | [l]=>by simp [dz]
 | l::m::ls=>by
   have:=Ch w (m::ls)
   rw [dz]
   simp only [df,gU,eC,List.sum_cons] at this ⊢
   omega
theorem Ev (w:aK) (ks:List (Int × List Tx)):(dz w (ks.map (·.2))).length <= kS ks:=by
 refine Nat.le_trans (Ch _ _) ?_
 unfold kS
 induction ks with
 | nil=>simp
 | cons y ks ih=>simp only [eC,List.sum_cons] at ih ⊢; omega
theorem wc (k:Int) (n:Nat) (l:List Tx):(eK k n l).length <= l.length+2:=by
 unfold eK
 split
 . omega
 . simp
theorem abC (ks:List (Int × List Tx)):(dz cH (ks.map fun x=>eK x.1 1 x.2)).length <= kS ks:=by
 refine Nat.le_trans (Ch _ _) ?_
 unfold kS
 induction ks with
 | nil=>simp
 | cons y ks ih =>
   have:=wc y.1 1 y.2
   simp only [eC,List.sum_cons] at ih ⊢; omega
theorem Iq (a b:List (Int × List Tx)):kS (a++b)=kS a+kS b:=by simp [kS]
theorem aaN:∀ (ks:List (Int × List Tx)),(ks.getD 0 (0,[])).2.length+(ks.getD 1 (0,[])).2.length+(ks.getD 2 (0,[])).2.length <= kS ks
 | []=>by simp [kS]
 | [a]=>by simp [kS]
 | [a,b]=>by simp [kS]; omega
 | a::b::c::ks=>by simp [kS]; omega
theorem aaL (w:aK) (ks:List (Int × List Tx)):(dz w ((ks.map (·.2)).take (ks.length - 1))).length+(ks.getD (ks.length - 1) (0,[])).2.length <= kS ks:=by
 cases ks with
 | nil=>simp [dz,kS]
 | cons y r =>
   obtain ⟨q,x,hq⟩:=mq (l:=y::r) (by simp)
   rw [hq]
   have:=Ev w q
   have e:(q++[x]).length - 1=q.length:=by simp
   rw [e,Iq,List.map_append,List.take_left' (by simp)]
   have:((q++[x]).getD q.length (0,[])).2=x.2:=by simp [pT]
   rw [this]
   have:kS [x]=x.2.length+3:=by simp [kS]
   omega
theorem aaM (w:aK) (ks:List (Int × List Tx)) (h:2 <= ks.length):(dz w ((ks.map (·.2)).take (ks.length - 2))).length+(ks.getD (ks.length - 2) (0,[])).2.length+(ks.getD (ks.length - 1) (0,[])).2.length <= kS ks:=by
 obtain ⟨q1,y,rfl⟩:=mq (l:=ks) (by omega)
 obtain ⟨q,x,rfl⟩:=mq (l:=q1) (by simp at h; omega)
 have:=Ev w q
 have e:(q++[x]++[y]).length - 2=q.length:=by simp
 have e1:(q++[x]++[y]).length - 1=q.length+1:=by simp
 rw [e,e1,Iq,Iq,gn,List.map_append,List.take_left' (by simp)]
 have h1:((q++([x]++[y])).getD q.length (0,[])).2=x.2:=by simp [pT]
 have h2:((q++([x]++[y])).getD (q.length+1) (0,[])).2=y.2:=by simp [pT]
 rw [h1,h2]
 have:kS [x]=x.2.length+3:=by simp [kS]
 have:kS [y]=y.2.length+3:=by simp [kS]
 omega
theorem No {k:Int} {t:aK} {n m:Int} {ks:List (Int × List Tx)} (h34:k=3\/k=4->2 <= ks.length):(bw k t n m ks).length <= 16+kS ks:=by
 have f3:=aaN ks
 have f1:=aaL cV ks
 have f0:=Ev cV ks
 have fq:=abC ks
 have b0:=fun l=>wc (ks.getD 0 (0,[])).1 l (ks.getD 0 (0,[])).2
 have b1:=fun l=>wc (ks.getD 1 (0,[])).1 l (ks.getD 1 (0,[])).2
 have b2:=fun l=>wc (ks.getD 2 (0,[])).1 l (ks.getD 2 (0,[])).2
 have bl:=fun l=>wc (ks.getD (ks.length - 1) (0,[])).1 l (ks.getD (ks.length - 1) (0,[])).2
 unfold bw
 simp only
 refine D9 (fun c=>?_) (fun c2=>D9 (fun c=>?_) (fun c34=>?_))
 . simp only [df,gU,lB]; omega
 . have f2:=aaM cV ks (h34 c)
   simp only [df,gU,lB]; omega
 repeat' (refine D9 (fun c=>?_) (fun c=>?_))
 all_goals try simp only [df,gU,lB]
 all_goals first
  | omega
  | (have:=b0 1; have:=b1 1; have:=b2 1; omega)
  | (have:=b0 4; omega)
  | (have:=b0 8; omega)
  | (have:=b0 (if bR k=5 then 6 else bR k); have:=b1 (bR k+1); omega)
  | (have:=bl 1; omega)
theorem Um {ks:List Tre} (h:dQ (ks.map Tre.kind) [⟨.kind 5,0,900⟩,⟨.base,1,1⟩,⟨.term,1,1⟩]=true):2 <= ks.length:=by
 refine Nat.le_of_not_lt fun aQ=>?_
 obtain ⟨ps,a,b,rfl,_⟩:=xO (by omega) h
 simp at aQ; omega
theorem YC {k:Int} {x:aK} {n m a:Int} {ks:List Tre} (ho:(Tre.mk k x n m a ks).ok=true):(Tre.mk k x n m a ks).pr.length <= 16+(ks.map fun t=>t.pr.length+3).sum:=by
 obtain ⟨f,hf,g1,g2,g3⟩:=Tre.rC ho
 rw [Tre.fi]
 have h:=No (k:=k) (t:=x) (n:=n) (m:=m) (ks:=ks.map fun t=>(t.kind,t.pr)) (fun h=>by
  have km:f=⟨true,false,false,[⟨.kind 5,0,900⟩,⟨.base,1,1⟩,⟨.term,1,1⟩]⟩:=by rcases h with rfl | rfl <;> simpa [bC] using hf.symm
  subst km
  rw [List.length_map]
  exact Um g2)
 have e:kS (ks.map fun t=>(t.kind,t.pr))=(ks.map fun t=>t.pr.length+3).sum:=by
  unfold kS; rw [List.map_map]; rfl
 rw [e] at h
 exact h
theorem YD:∀ (N:Nat) (ts:List Tre),(Tre.bG ts).length <= N->(∀ t ∈ ts,t.ok=true)->(ts.map fun t=>t.pr.length+3).sum <= 19 * (Tre.bG ts).length:=by
 intro N
 induction N with
 | zero =>
   intro ts hN ho
   cases ts with
   | nil=>simp
   | cons t ts=>have:=t.ef; simp only [Tre.cS,df] at hN; omega
 | succ N ih =>
   intro ts hN ho
   cases ts with
   | nil=>simp
   | cons t ts =>
     have ht:=ho t (by simp)
     have Bg:=nN t
     simp only [Tre.cS,df] at hN
     have i1:=ih t.kids (by omega) fun c hc=>(Ea ht c hc).2
     have i2:=ih ts (by omega) fun c hc=>ho c (by simp [hc])
     have hn:t.pr.length <= 16+(t.kids.map fun t=>t.pr.length+3).sum:=by
      cases t with
      | mk k x n m a ks=>exact YC ht
     rw [Tre.cS,df,eC,List.sum_cons]
     omega
theorem abu {t:Tre} (ho:t.ok=true):t.pr.length <= 19 * t.flat.length:=by
 have:=YD _ [t] (cX _) (by simpa using ho)
 simp at this
 omega
end Go.Rip
namespace Go.Rip
open Go.Proofs Go.RowKit
section
variable {v:AV} {L:List Nd} {U:St} {R:cR->St->Prop} {s:Tre} {n:Nat}
theorem PS.fz {b:Nat} {aq ad:St} {bp:List Tx} (h:PS b v aq bp ad) (hb:NK aq b):Fz aq ad:=fun c x hx ht=>h.fr c x (hb.ne hx ht) hx ht
theorem YM {v:AV} {l:List Nd} (h:Sl v l):v.dc=true/\au v=[v]:=by
 rcases h.s with ⟨_,_,rfl⟩ | ⟨c,rfl⟩ <;> exact ⟨rfl,rfl⟩
theorem Fz.Dx {c:Nat} {aq U:St} {x:Live} (h:Fz aq U) (n:NK aq c):Fz aq (U.set c x):=h.iH n fun d hd=>by rw [dR,if_neg hd]
theorem Jq (hv:Sl v L) (hL:L.length <= 1000) (hz:∀ (i:Nat) (y:Nd),L[i]?=some y->y.size <= 100000) (hs:gm L n s) (h9:s.flat.length <= 900) (ho:s.ok=true) (h1:s.kind ≠ 1)
 (h:∀ ad,Fz U ad->R (.ret (.aH [.str (fy s.pr).1,.int .i64 (fy s.pr).2])) ad):ae K 64 [.agg [v],.int .i64 (n:Nat)] U R:=by
 obtain ⟨x,hx,uq,Wr,_⟩:=hs.qG
 have hle:=hs.le
 have mZ:=abu ho
 have wC:=II hv hL hz _ s n (cX _) hs h9 ho h1
 refine Jf ?_
 unfold Nv
 rw [fA rfl]
 intro b2 gg
 have m2:(U.new b2 (.box (au (.agg [v])))).box b2=some [v]:=aG
 have e2:=bg gg (x:=.box (au (.agg [v])))
 generalize U.new b2 _=aq at *
 rw [cz]
 intro b4 gN
 have m4:(aq.new b4 (.box [AV.str []])).box b4=some [.str []]:=aG
 have Bw:=gN.bP m2
 have f4:=e2.fresh gN.1
 have e4:=e2.new gN (x:=.box [AV.str []])
 have m2:=(bg gN (x:=.box [AV.str []])).aX m2
 generalize aq.new b4 (.box [AV.str []])=aR at *
 rw [cz]
 intro b5 jP
 have m5:(aR.new b5 (.box [AV.int .i64 0])).box b5=some [.int .i64 0]:=aG
 have n25:=jP.bP m2
 have Bx:=jP.bP m4
 have f5:=e4.fresh jP.1
 have e5:=e4.new jP (x:=.box [AV.int .i64 0])
 have m2:=(bg jP (x:=.box [AV.int .i64 0])).aX m2
 have m4:=(bg jP (x:=.box [AV.int .i64 0])).aX m4
 generalize aR.new b5 (.box [AV.int .i64 0])=a7 at *
 refine gj (gj (dY m2 rfl (NR (hv.jk _) hx (show (db x)[0]?=some (.int .u8 x.kind) from rfl) ?_)))
 rw [uq,dp,al,decide_eq_false h1]
 simp only [eQ]
 refine dP ?_
 rw [yb m2]
 refine ⟨by simp,oF B8 ?_⟩
 rw [abt]
 refine aau [v,.ah,opsV] ?_ ?_
 . obtain ⟨l1,l2⟩:=YM hv
   simp [td,opsV,ay]
 rw [fA rfl]
 intro N3 HH
 have m22:(a7.new N3 (.box (au (.agg [v,.ah,opsV])))).box N3=some [v,.ah,opsV]:=aG
 have n2:=HH.bP m2
 have en:=bg HH (x:=.box (au (.agg [v,.ah,opsV])))
 have afc:NK a7 N3:=.of HH.1
 have hP:PS N3 v a7 [] (a7.new N3 (.box (au (.agg [v,.ah,opsV])))):=⟨⟨.ah,m22,gk.nil (xp _)⟩,.mg en⟩
 have agX:=HH.bP m4
 have agY:=HH.bP m5
 refine ⟨fun b hb=>?_,?_⟩
 . simp only [eL,gy,cD,List.not_mem_nil,or_false] at hb
   subst hb
   rw [mB,if_neg n2]
 refine wC _ _ _ _ _ hP (by unfold NT; simp; omega) fun bO h3=>?_
 rw [bB]
 rw [jN] at h3
 have f3:=h3.fz afc
 obtain ⟨⟨vl,iD,hg⟩,_⟩:=h3
 simp only [bS,al]
 refine gj (dY iD rfl ?_)
 refine Vr hg.sl (GM _ s (cX _) ho) (by omega) fun cG f4'=>?_
 simp only [bB,bu,List.drop,bA]
 have f34:=f3.trans f4'
 have m4:=f34.aX m4
 have m5:=f34.aX m5
 rw [cI m4]
 refine ⟨⟨rfl,rfl,by simp⟩,?_⟩
 rw [cI (show (cG.set b4 _).box b5=some [.int .i64 0] by rw [aO Bx.symm]; exact m5)]
 refine ⟨⟨rfl,rfl,by simp⟩,?_⟩
 rw [ye (show ((cG.set b4 (.box (ay [.str []] 0 (au (.str (fy s.pr).1))))).set b5 (.box (ay [.int .i64 0] 0 (au (.int .i64 (fy s.pr).2))))).box b4=some [.str (fy s.pr).1] by rw [aO Bx,aV]; rfl) rfl]
 rw [ye aV rfl]
 refine ak.mk (h _ ?_)
 have hfz:Fz U cG:=(Fz.mg e5).trans f34
 exact (hfz.Dx (.of f4)).Dx (.of f5)
theorem DC {t:Tre} {ts:List Tre} {acc:aK}:ib (t::ts) acc=if (fy t.pr).2 ≠ 0 then ([],(fy t.pr).2) else ib ts (acc++(fy t.pr).1++[10]):=rfl
theorem Vq (hv:Sl v L) (hL:L.length <= 1000) (hz:∀ (i:Nat) (y:Nd),L[i]?=some y->y.size <= 100000) (hs:gm L n s) (h9:s.flat.length <= 900) (ho:s.ok=true) (h1:s.kind=1)
 (h:∀ ad,Fz U ad->R (.ret (.aH [.str (ib s.kids []).1,.int .i64 (ib s.kids []).2])) ad):ae K 64 [.agg [v],.int .i64 (n:Nat)] U R:=by
 obtain ⟨x,hx,uq,Wr,_⟩:=hs.qG
 have hle:=hs.le
 have Bg:=nN s
 have iC:=Ea ho
 refine Jf ?_
 unfold Nv
 rw [fA rfl]
 intro b2 gg
 have m2:(U.new b2 (.box (au (.agg [v])))).box b2=some [v]:=aG
 have e2:=bg gg (x:=.box (au (.agg [v])))
 generalize U.new b2 _=aq at *
 rw [cz]
 intro b4 gN
 have m4:(aq.new b4 (.box [AV.str []])).box b4=some [.str []]:=aG
 have Bw:=gN.bP m2
 have f4:=e2.fresh gN.1
 have e4:=e2.new gN (x:=.box [AV.str []])
 have m2:=(bg gN (x:=.box [AV.str []])).aX m2
 generalize aq.new b4 (.box [AV.str []])=aR at *
 rw [cz]
 intro b5 jP
 have m5:(aR.new b5 (.box [AV.int .i64 0])).box b5=some [.int .i64 0]:=aG
 have n25:=jP.bP m2
 have Bx:=jP.bP m4
 have f5:=e4.fresh jP.1
 have e5:=e4.new jP (x:=.box [AV.int .i64 0])
 have m2:=(bg jP (x:=.box [AV.int .i64 0])).aX m2
 have m4:=(bg jP (x:=.box [AV.int .i64 0])).aX m4
 generalize aR.new b5 (.box [AV.int .i64 0])=a7 at *
 refine gj (gj (dY m2 rfl (NR (hv.jk _) hx (show (db x)[0]?=some (.int .u8 x.kind) from rfl) ?_)))
 rw [uq,dp,al,decide_eq_true h1]
 simp only [c8]
 refine dC ?_
 rw [kO]
 intro b7 mG
 rw [show NV.at b7 .box=AV.box b7 0 from rfl]
 have hB:Bu U (a7.new b7 (.tF 158 [.aY,.ah])) b7 []:=⟨.inl ⟨rfl,.inl (by rw [mB,if_pos rfl])⟩,.of (e5.fresh mG.1),.mg (e5.new mG)⟩
 have n27:=mG.bP m2
 have WC:=mG.bP m4
 have n57:=mG.bP m5
 have e7:=bg mG (x:=.tF 158 [.aY,.ah])
 have m2:=e7.aX m2
 have m4:=e7.aX m4
 have m5:=e7.aX m5
 generalize a7.new b7 _=bO at *
 refine kx m2 ?_
 refine xP (n:=n) hv.s hx (bI (by omega) (by omega)) fun bn be bt cG d1 d2 d3 f1 f2 f3 q1 q2 q3 e3=>?_
 rw [bB]
 have n2n:b2 ≠ bn:=fun e=>cj m2 (e ▸ f1)
 have n4n:b4 ≠ bn:=fun e=>cj m4 (e ▸ f1)
 have n4e:b4 ≠ be:=fun e=>cj m4 (e ▸ f2)
 have n4t:b4 ≠ bt:=fun e=>cj m4 (e ▸ f3)
 have n5n:b5 ≠ bn:=fun e=>cj m5 (e ▸ f1)
 have n5e:b5 ≠ be:=fun e=>cj m5 (e ▸ f2)
 have n5t:b5 ≠ bt:=fun e=>cj m5 (e ▸ f3)
 have b7l:bO.live b7 ≠ none:=by
  rcases hB.at_ with ⟨_,h' | h'⟩ | ⟨_,τ,h',_⟩
  . rw [h']; simp
  . exact cj h'
  . exact cj h'
 have n7n:b7 ≠ bn:=fun e=>b7l (e ▸ f1)
 have n7e:b7 ≠ be:=fun e=>b7l (e ▸ f2)
 have n7t:b7 ≠ bt:=fun e=>b7l (e ▸ f3)
 have m2:=e3.aX m2
 have m4:=e3.aX m4
 have m5:=e3.aX m5
 have hB:=hB.mono (.mg e3)
 have KT:fj L ((n:Int)+x.size) L.length (n+1)=eu (n+1) s.kids:=by
  rw [Wr]; exact xM hs
 have sU:s.kids.length <= 900:=by have:=Tre.nF s.kids; omega
 have ret:∀ (ad:St) (a:aK) (e:Int),ad.box b4=some [.str a]->ad.box b5=some [.int .i64 e]->Fz U ad->a=(ib s.kids []).1->e=(ib s.kids []).2->bq (some (false,1)) (.box b4 0) ad fun r0=>bq (some (false,1)) (.box b5 0) ad fun r1=>ak R (AV.aH [r0,r1]) ad:=by
  intro ad a e k4 k5 hf ha he
  rw [ye k4 rfl,ye k5 rfl]
  subst ha he
  exact ak.mk (h _ hf)
 have put:∀ (ad:St) (a0 a:aK) (e0 e:Int) (Q:St->Prop),ad.box b4=some [.str a0]->ad.box b5=some [.int .i64 e0]->Fz U ad ->
  (∀ iJ,iJ.box b4=some [.str a]->iJ.box b5=some [.int .i64 e]->Fz U iJ->(∀ c,c ≠ b4->c ≠ b5->iJ.live c=ad.live c)->Q iJ)->∀ (P1 P2:AV->St->Prop),(aF (some (false,1)) (.box b4 0) (.str a) ad).wp K ad (fun _ U=>(aF (some (false,1)) (.box b5 0) (.int .i64 e) U).wp K U (fun _ U=>Q U) P2) P1:=by
  intro ad a0 a e0 e Q k4 k5 hf hQ P1 P2
  rw [cI k4]
  refine ⟨⟨rfl,rfl,by simp⟩,?_⟩
  rw [cI (show (ad.set b4 (.box (ay [.str a0] 0 (au (.str a))))).box b5=some [.int .i64 e0] by rw [aO Bx.symm]; exact k5)]
  refine ⟨⟨rfl,rfl,by simp⟩,hQ _ ?_ ?_ ?_ ?_⟩
  . rw [aO Bx,aV]; rfl
  . rw [aV]; rfl
  . exact (hf.Dx (.of f4)).Dx (.of f5)
  . intro c c4 c5
    rw [dR,if_neg c5,dR,if_neg c4]
 have fin:∀ (ad:St) (acc:aK),ad.box b4=some [.str []]->ad.box b5=some [.int .i64 0]->Bu U ad b7 acc->ib s.kids []=ib [] acc ->
  ae K 126 [.box b7 0] ad (ag (fun v49 U =>
  (ax .gtr (BT.mk false false false none false) true v49 (AV.int .i64 2500)).wp K U (fun jG U =>
  aw jG (
   (aF (some (false,1)) (.box b4 0) (AV.str w_) U).wp K U (fun _ U =>
   (aF (some (false,1)) (.box b5 0) (AV.int .i64 5) U).wp K U (fun _ U =>
   bq (some (false,1)) (.box b4 0) U fun nW =>
   bq (some (false,1)) (.box b5 0) U fun IY =>
   ak R (AV.aH [nW,IY]) U) (aa R)) (aa R)) (
   ae K 127 [.box b7 0] U (ag (fun v51 U =>
   (aF (some (false,1)) (.box b4 0) v51 U).wp K U (fun _ U =>
   (aF (some (false,1)) (.box b5 0) (AV.int .i64 0) U).wp K U (fun _ U =>
   bq (some (false,1)) (.box b4 0) U fun qD =>
   bq (some (false,1)) (.box b5 0) U fun IZ =>
   ak R (AV.aH [qD,IZ]) U) (aa R)) (aa R)) (aa R)))) (aa R)) (aa R)):=by
  intro ad acc k4 k5 uh e
  refine Od uh ?_
  rw [eY,al]
  refine gZ (fun wv=>?_) fun wv=>?_
  . have hE:ib s.kids []=([],5):=by rw [e,ib,if_pos (by omega)]
    exact put ad [] [] 0 5 _ k4 k5 uh.fz (fun iJ j4 j5 hf _=>ret iJ [] 5 j4 j5 hf (by rw [hE]) (by rw [hE])) _ _
  . have hE:ib s.kids []=(acc,0):=by rw [e,ib,if_neg (by omega)]
    refine Oe uh fun di zh hf5=>?_
    exact put di [] acc 0 0 _ (zh.aX WC k4) (zh.aX n57 k5) hf5 (fun iJ j4 j5 hf _=>ret iJ acc 0 j4 j5 hf (by rw [hE]) (by rw [hE])) _ _
 have hNL:∀ {ad:St},Fz U ad->∀ {o:Nat},ad.live o=none->NK U o:=fun hf o ho=>hf.nk ho
 refine BD (n:=n) (en:=(n:Int)+x.size)
  (fun o ks ad=>(ad.box bn=some [.int .i64 (n:Nat)]/\ad.box be=some [.int .i64 ((n:Int)+x.size)]/\ad.box bt=some [v])/\(ad.box b2=some [v]/\ad.box b4=some [.str []]/\ad.box b5=some [.int .i64 0])/\NK U o/\∃ acc,Bu U ad b7 acc/\acc.length <= 2501 * ks.length/\ib s.kids []=ib (s.kids.drop ks.length) acc)
  (fun o ad=>NK U o/\Fz U ad/\∃ e,ad.box b4=some [.str []]/\ad.box b5=some [.int .i64 e]/\ib s.kids []=([],e)) hv.s (by omega) (by omega) (by omega)
  (fun o ks ad hI=>hI.1) (fun o ks ad L0 L' hI ho=>?_) (fun o ad L0 L' hJ ho=>?_) (fun ks jk y ad o L1 q hI hy aQ adL hnk sU si js O8 Wj=>?_) (fun ks ad o L0 iC hI E9=>?_) (fun ad o L0 hJ E9=>?_) (fun o L0 ho=>?_)
 . obtain ⟨⟨i1,i2,i3⟩,⟨j2,j4,j5⟩,hn,acc,uh,hl,he⟩:=hI
   have kb:∀ {c y},ad.box c=some y->(ad.set o (.loop L')).box c=some y:=fun h=>by rw [aO (bT h ho)]; exact h
   exact ⟨⟨kb i1,kb i2,kb i3⟩,⟨kb j2,kb j4,kb j5⟩,hn,acc,uh.iH hn ho fun c hc=>by rw [dR,if_neg hc],hl,he⟩
 . obtain ⟨hn,hf,e,j4,j5,he⟩:=hJ
   have kb:∀ {c y},ad.box c=some y->(ad.set o (.loop L')).box c=some y:=fun h=>by rw [aO (bT h ho)]; exact h
   exact ⟨hn,hf.Dx hn,e,kb j4,kb j5,he⟩
 . obtain ⟨⟨i1,i2,i3⟩,⟨j2,j4,j5⟩,hn,acc,uh,hl,he⟩:=hI
   rw [KT] at si
   obtain ⟨r,hr⟩:=si
   have afj:(eu (n+1) s.kids)[ks.length]?=some jk:=by rw [hr]; simp
   obtain ⟨u,hu,Wn⟩:=yk hs.kids afj
   have hum:=gh hu
   obtain ⟨uk1,uok⟩:=iC u hum
   have hut:=Tre.uu hum
   have My:s.kids.drop ks.length=u::s.kids.drop (ks.length+1):=by
    rw [gT (dx.1 hu).1,(dx.1 hu).2]
   have agS:ks.length < s.kids.length:=(dx.1 hu).1
   rw [My,DC] at he
   refine kx j2 (Jq hv hL hz Wn (by omega) uok uk1 fun di zh=>?_)
   have i1:=zh.aX i1
   have i2:=zh.aX i2
   have i3:=zh.aX i3
   have j2:=zh.aX j2
   have j4:=zh.aX j4
   have j5:=zh.aX j5
   have uh:=uh.mono zh
   have js:=zh.loop js
   simp only [bB,bu,List.drop,bA]
   refine SS ?_
   by_cases u1:(fy u.pr).2=0
   . simp only [u1,du,c8]
     refine dC ?_
     rw [if_neg (by simp [u1])] at he
     obtain ⟨t1,t2,t3⟩:=Gc u1
     have hlen:((fy u.pr).1).length <= 2500:=by rw [t1]; exact t3
     rw [aeC]
     refine ⟨by simp [rO]; omega,?_⟩
     refine EP (by simp [rO]) uh (by simp [rO]; omega) fun yy mK hB6 f6=>?_
     refine O8 mK ⟨⟨f6.aX n7n.symm i1,f6.aX n7e.symm i2,f6.aX n7t.symm i3⟩,⟨f6.aX n27 j2,f6.aX WC j4,f6.aX n57 j5⟩,hn,_,hB6,?_,?_⟩ (hz _ _ hy) (f6.loop ?_ js)
     . simp [rO]; omega
     . rw [he,df,List.length_singleton]
       congr 1
       simp [rO]
     . rintro rfl
       rcases uh.at_ with ⟨_,h' | h'⟩ | ⟨_,τ,h',_⟩
       . unfold St.loop at js; rw [h'] at js; cases js
       . exact bT h' js rfl
       . exact bT h' js rfl
   . simp only [u1,eB,eQ]
     refine dP ?_
     rw [if_pos u1] at he
     refine put di [] [] 0 _ _ j4 j5 uh.fz (fun iJ k4 k5 hf oU=>?_) _ _
     refine Wj iJ ⟨hn,hf,_,k4,k5,he⟩ ?_
     rw [fM (oU o (bT j4 js).symm (bT j5 js).symm)]; exact js
 . obtain ⟨⟨i1,i2,i3⟩,⟨j2,j4,j5⟩,hn,acc,uh,hl,he⟩:=hI
   have kb:∀ {c y},ad.box c=some y->(ad.del o).box c=some y:=fun h=>by rw [jg (bT h E9)]; exact h
   rw [KT] at iC
   have hlen:ks.length=s.kids.length:=by rw [iC,qn]
   rw [hlen,List.drop_length] at he
   exact fin _ acc (kb j4) (kb j5) (uh.iH hn E9 fun c hc=>by rw [kF,if_neg hc]) he
 . obtain ⟨hn,hf,e,j4,j5,he⟩:=hJ
   have kb:∀ {c y},ad.box c=some y->(ad.del o).box c=some y:=fun h=>by rw [jg (bT h E9)]; exact h
   exact ret _ [] e (kb j4) (kb j5) (hf.iH hn fun c hc=>by rw [kF,if_neg hc]) (by rw [he]) (by rw [he])
 . have e:=bg ho (x:=.loop L0)
   exact ⟨⟨e.aX q1,e.aX q2,e.aX q3⟩,⟨e.aX m2,e.aX m4,e.aX m5⟩,hB.fz.nk ho.1,[],hB.mono (.mg e),by simp,by simp⟩
end
end Go.Rip
namespace Go.Rip
open Go.Proofs Go.RowKit
section
variable {U:St} {R:cR->St->Prop} {v:AV} {l:List Nd} {p:Int} {g:FuncId} {fs cs:List AV}
theorem abV (hv:Sl v l) (hl:l.length <= 10000) (l8:∀ x ∈ l,x.text.length <= 3000) (hg:eX K.P g=true)
 (h0:kz l p ≠ 0->∀ ad,cW U ad->R (.ret (.aH [.str [],.int .i64 (kz l p)])) ad)
 (h1:kz l p=0->∀ ad,cW U ad->ae K g (fs++[.agg [v]]++cs) ad (VI R (.str []))):ae K 62 [.agg [v],.int .i64 p,.func (.func g) fs cs] U R:=by
 refine U3 ?_
 unfold W4
 rw [fA rfl]
 intro b1 gQ
 have m1:(U.new b1 (.box (au (.agg [v])))).box b1=some [v]:=aG
 have e1:=bg gQ (x:=.box (au (.agg [v])))
 generalize U.new b1 _=aR at *
 refine kx m1 ((CC hv.s hv.c hl l8).go ?_)
 rw [dp,al]
 by_cases hc:gx l=0
 rotate_left
 . simp only [hc,eB,eQ]
   refine dP (ak.mk ?_)
   rw [<- qu (p:=p) hc]
   exact h0 (by rw [qu hc]; exact hc) _ e1
 simp only [hc,du,c8]
 refine dC (gj (dY m1 rfl ?_))
 rw [hv.s.len,al,kT,gL,wp_cond,al]
 refine ⟨bI (by omega) (by omega),JC ?_⟩
 simp only [ey,al]
 by_cases hp:0 <= p/\p <= (l.length:Int) - 1
 rotate_left
 . simp only [hp,eB,eQ]
   refine dP (ak.mk ?_)
   have:=G9 hc hp
   rw [<- this]
   exact h0 (by rw [this]; decide) _ e1
 simp only [hp,and_self,du,c8]
 refine dC (kx m1 (oQ [v] rfl ?_))
 rw [SW hg]
 exact XU (h1 (Ak hc hp) _ e1)
end
noncomputable def n7 (l:List Nd) (p:Int):aK × Int:=if kz l p ≠ 0 then ([],kz l p) else match Ck ((l.drop p.toNat).take (gi l p.toNat)) with | some s=>oZ s | none=>([],0)
theorem Af {l:List Nd} {p:Int} (h:kz l p ≠ 0):n7 l p=([],kz l p):=by unfold n7; rw [if_pos h]
theorem Gb {t s:Tre} {n:Nat} (h:kz t.flat n=0) (hs:gm t.flat n s):n7 t.flat n=oZ s:=by
 have eP:=Nw hs
 unfold n7
 rw [if_neg (by simp [h]),iZ,eP]
 obtain ⟨r,hr⟩:=hs
 rw [hr,List.take_left,Gg]
theorem NC {s:Tre} (h:(oZ s).2 ≠ 0):(oZ s).1=[]:=by
 have e1:∀ l:List Tx,(fy l).2 ≠ 0->(fy l).1=[]:=fun l h=>by
  unfold fy at h ⊢
  repeat' split
  all_goals first
   | rfl
   | (exfalso; simp_all)
 have e2:∀ (ts:List Tre) (acc:aK),(ib ts acc).2 ≠ 0->(ib ts acc).1=[]:=by
  intro ts
  induction ts with
  | nil=>intro acc h; unfold ib at h ⊢; split <;> simp_all
  | cons t ts ih =>
    intro acc h
    rw [DC] at h ⊢
    split
    . rfl
    . rename_i h'
      rw [if_neg h'] at h
      exact ih _ h
 unfold oZ at h ⊢
 split
 . rename_i h'; rw [if_pos h'] at h; exact e1 _ h
 . rename_i h'; rw [if_neg h'] at h; exact e2 _ _ h
theorem SH {v:AV} {l:List Nd} (hv:Sl v l) (hl:l.length <= 1000) (l8:∀ x ∈ l,x.text.length <= 3000) (p:Int):Pure K 28 [.agg [v],.int .i64 p] (.aH [.str (n7 l p).1,.int .i64 (n7 l p).2]):=by
 refine Pure.of (by simp [cA,hv.cl,show closed (.int .i64 p)=true from rfl]) rfl (fun U=>rfl) fun R hR=>?_
 refine UR ?_
 unfold WT
 rw [fA rfl]
 intro b1 gQ
 have m1:((bM ⟨.e,0⟩).new b1 (.box (au (.agg [v])))).box b1=some [v]:=aG
 generalize (bM _).new b1 _=aq at *
 rw [fA rfl]
 intro b2 gg
 have m2:(aq.new b2 (.box (au (.int .i64 p)))).box b2=some [.int .i64 p]:=aG
 have m1:=(bg gg (x:=.box (au (.int .i64 p)))).aX m1
 generalize aq.new b2 (.box (au (.int .i64 p)))=aR at *
 refine kx m1 (dY m2 rfl ?_)
 have fin:∀ (x:aK) (e:Int) (ad:St),x=(n7 l p).1->e=(n7 l p).2->ag (fun v9 U=>(aT v9 0).wp K U (fun v10 U=>(aT v9 1).wp K U (fun v11 U=>ak R (AV.aH [v10,v11]) U) (aa R)) (aa R)) (aa R) (.ret (.aH [.str x,.int .i64 e])) ad:=by
  intro x e ad hx he
  subst hx he
  simp only [bB,bu,List.drop,bA]
  exact ak.mk (hR _)
 refine abV (fs:=[]) (cs:=[.box b2 0]) hv (by omega) l8 (by kernel_rfl) (fun ha a7 e2=>?_) (fun ha a7 e2=>?_)
 . exact fin _ _ _ (by rw [Af ha]) (by rw [Af ha])
 have m2:=e2.aX m2
 obtain ⟨n,t,s,rfl,rfl,h1,h2,h3,hs⟩:=EI ha
 have hS:=Gb ha hs
 have hle:=hs.le
 have V5:t.flat.length <= 900:=by
  refine Nat.le_of_not_lt fun h'=>?_
  have:kz t.flat n ≠ 0:=by
   have hc:gx t.flat=5:=by unfold gx; rw [if_pos h']
   rw [qu (by rw [hc]; decide),hc]; decide
  exact this ha
 have cK:s.ok=true:=by
  obtain ⟨s',eO,H6⟩:=wX _ [t] 0 (cX _) (show mR t.flat 0 [t] from ⟨[],by simp⟩) n (by omega) (by simpa using h3)
  rw [hs.inj eO]
  exact H6 (by simp [h2])
 have hz:∀ (i:Nat) (y:Nd),t.flat[i]?=some y->y.size <= 100000:=fun i y hy=>by have:=Mn.2.2 i y hy; omega
 have key:∀ Rt:cR->St->Prop,(∀ ad,Rt (.ret (.aH [.str (oZ s).1,.int .i64 (oZ s).2])) ad)->ae K 63 [.agg [v],.box b2 0] a7 Rt:=by
  intro Rt VS
  refine U4 ?_
  unfold W5
  rw [fA rfl]
  intro b3 lq
  have m3:(a7.new b3 (.box (au (.agg [v])))).box b3=some [v]:=aG
  have m2:=(bg lq (x:=.box (au (.agg [v])))).aX m2
  generalize a7.new b3 _=bO at *
  refine kx m3 (dY m2 rfl ?_)
  by_cases hk:s.kind=1
  . have:oZ s=ib s.kids []:=by unfold oZ; rw [if_neg (by simp [hk])]
    rw [this] at VS
    refine Vq hv hl hz hs (by omega) cK hk fun ad _=>?_
    simp only [bB,bu,List.drop,bA]
    exact ak.mk (VS _)
  . have:oZ s=fy s.pr:=by unfold oZ; rw [if_pos hk]
    rw [this] at VS
    refine Jq hv hl hz hs (by omega) cK hk fun ad _=>?_
    simp only [bB,bu,List.drop,bA]
    exact ak.mk (VS _)
 refine key _ fun ad=>⟨_,_,rfl,fun cn=>fin _ _ _ ?_ (by rw [hS]),fun he=>fin _ _ _ (by rw [hS]) (by rw [hS,he])⟩
 rw [hS,NC cn]
theorem Np {v:AV} {l:List Nd} (hv:Sl v l) (hl:l.length <= 1000) (l8:∀ x ∈ l,x.text.length <= 3000):Pure K 25 [.agg [v]] (.aH [.str (n7 l 0).1,.int .i64 (n7 l 0).2]):=by
 refine Pure.of (by simp [cA,hv.cl]) rfl (fun U=>rfl) fun R hR=>?_
 refine UP ?_
 unfold WR
 rw [fA rfl]
 intro b1 gQ
 have m1:((bM ⟨.e,0⟩).new b1 (.box (au (.agg [v])))).box b1=some [v]:=aG
 generalize (bM _).new b1 _=aq at *
 refine kx m1 ((SH hv hl l8 0).go ?_)
 simp only [bu,List.drop,bA]
 exact ak.mk (hR _)
end Go.Rip
namespace Go.Rip
theorem EU {l:List Nd} (h:gx l=0):∃ t:Tre,l=t.flat/\t.kind=1/\t.ok=true/\t.flat.length <= 900/\t.deep <= 60/\t.kids.length <= 24:=by
 have h9:¬ 900 < l.length:=fun h'=>by unfold gx at h; rw [if_pos h'] at h; cases h
 have:∃ t:Tre,l=t.flat/\t.kind=1/\t.ok=true:=Classical.not_not.1 fun h'=>by rw [tL h9 h'] at h; cases h
 obtain ⟨t,rfl,h1,h2⟩:=this
 refine ⟨t,rfl,h1,h2,by omega,?_⟩
 rw [zb t h9] at h
 unfold BU at h
 rw [if_neg (by simp [h1,h2])] at h
 refine ⟨Nat.le_of_not_lt fun h'=>?_,Nat.le_of_not_lt fun h'=>?_⟩
 . rw [if_pos (.inl h')] at h; cases h
 . rw [if_pos (.inr h')] at h; cases h
theorem P7 {t:Tre} (h1:t.kind=1) (h2:t.ok=true) (h9:t.flat.length <= 900):(∀ c ∈ t.kids,c.ok=true/\iQ c.kind=true/\c.flat.length <= 900)/\∃ a,t=.mk 1 [] 0 0 a t.kids:=by
 cases t with
 | mk k x n m a ks =>
   obtain rfl:k=1:=h1
   obtain ⟨f,hf,g1,g2,g3⟩:=Tre.rC h2
   obtain rfl:(⟨false,false,false,[⟨.item,0,900⟩]⟩:gd)=f:=by simpa [bC] using hf
   obtain ⟨f1,_,_,_,f5,f6⟩:=iq g1
   obtain rfl:=f1 rfl
   obtain rfl:=f5 rfl
   obtain rfl:=f6 rfl
   obtain ⟨_,hc⟩:=AA g2
   have hlen:(Tre.bG ks).length+1=(Tre.mk 1 [] 0 0 a ks).flat.length:=by rw [Tre.fp]; simp
   exact ⟨fun c uZ=>⟨g3 c uZ,hc c uZ,by have:=Tre.uu (ks:=ks) uZ; omega⟩,a,rfl⟩
theorem LU {l:List Nd} {s:aK} (hc:gx l=0) (hs:n7 l 0=(s,0)):s.length <= 2500/\((∃ u,ov s=(u,0,0)/\fx u=fx l/\gx u=0/\u.length=l.length)\/∃ q:Nat,ov s=([],(q:Int),5)/\jY s=.bad q 5):=by
 obtain ⟨t,rfl,h1,h2,h9,hd,h24⟩:=EU hc
 have ha:kz t.flat (0:Nat)=0:=Ak hc (by have:=t.ef; omega)
 have hS:=Gb (n:=0) ha (gm.whole t)
 have hS:n7 t.flat 0=oZ t:=hS
 obtain ⟨hk,a,hta⟩:=P7 h1 h2 h9
 have hT:oZ t=ib t.kids []:=by unfold oZ; rw [if_neg (by simp [h1])]
 rw [hS,hT] at hs
 have cK:=Jr t.kids [] (by rw [hs])
 rw [hs] at cK
 obtain ⟨e,hl⟩:=cK
 simp only [jN] at e hl
 subst e
 refine ⟨hl,?_⟩
 obtain ⟨k1,k2⟩:=Yd (fun c uZ=>(hk c uZ).1) hl
 by_cases TS:(nS t.kids).length <= 900
 . left
   obtain ⟨L,e1,e2⟩:=k1 TS
   have hLl:(nS t.kids).length=L.length:=by rw [<- e1]; simp
   obtain ⟨ns,b1,p1⟩:=Im (L:=L) (E:=(lP t.kids).length) t.kids [] 0 (L.length+1) hk ⟨[],by simp [e1]⟩ (by omega) (by omega)
   simp only [jN] at p1
   have hbz:bz (node 1 [] 0 0 0 ns)=bz t.flat:=by
    rw [hta,Tre.nE]
    exact eN b1
   have hlen:=Oh hbz
   obtain ⟨ae3,hL9⟩:=AD e2
   obtain ⟨m,g1,g2,g3⟩:=Il ae3 hL9 _ [] 0 0 p1 re.nil (by omega) (by omega)
   have wD:ji (node 1 [] 0 0 0 ns)=false:=by
    rw [OH hbz,vJ]
    simp; omega
   have hw:¬ (900 < (node 1 [] 0 0 0 ns).length\/ji (node 1 [] 0 0 0 ns)=true):=by
    rw [wD]; simp only [bU,or_false]; omega
   have OR:=SU g1 (by omega)
   rw [if_neg hw] at OR
   refine ⟨node 1 [] 0 0 0 ns,?_,hbz,OR,hlen⟩
   unfold ov
   rw [e2]
   simp only [p1]
   unfold lE
   rw [if_neg hw]
 . right
   obtain ⟨q,e2⟩:=k2 (by omega)
   exact ⟨q,by unfold ov; rw [e2],e2⟩
end Go.Rip
namespace Go.Rip
open Go.Proofs Go.RowKit
theorem zC {v:AV} {l:List Nd} (hv:Sl v l) (hl:l.length <= 10000) (l8:∀ x ∈ l,x.text.length <= 3000):Pure K 36 [.agg [v]] (.aH [.agg [eT (ki l).1],.bool (decide ((ki l).2=0))]):=by
 have cl:=EV hv (by omega)
 have cv:=AF l
 refine Pure.PO (by simp [cA,hv.cl]) (by simp [closed,cA,pX]) fun R hR=>?_
 refine UU ?_
 unfold WW
 rw [fA rfl]
 intro b1 gQ
 have m1:((bM ⟨.e,0⟩).new b1 (.box (au (.agg [v])))).box b1=some [v]:=aG
 generalize (bM _).new b1 _=aq at *
 rw [cz]
 intro b2 gg
 have m2:(aq.new b2 (.box [AV.ah])).box b2=some [.ah]:=aG
 have m1:=(bg gg (x:=.box [AV.ah])).aX m1
 generalize aq.new b2 (.box [AV.ah])=aR at *
 refine kx m1 (cl.go ((N6 cv hl l8).go ?_))
 simp only [bu,List.drop,bA]
 rw [cz]
 intro b4 gN
 have m4:(aR.new b4 (.box [AV.ah])).box b4=some [.ah]:=aG
 have Bw:=gN.bP m2
 have m2:=(bg gN (x:=.box [AV.ah])).aX m2
 generalize aR.new b4 (.box [AV.ah])=a7 at *
 rw [cI m4]
 refine ⟨⟨rfl,rfl,by simp⟩,?_⟩
 have m2:(a7.set b4 (.box (ay [AV.ah] 0 (au (.agg [eT (ki l).1]))))).box b2=some [.ah]:=by rw [aO Bw]; exact m2
 have m4:(a7.set b4 (.box (ay [AV.ah] 0 (au (.agg [eT (ki l).1]))))).box b4=some [eT (ki l).1]:=by rw [aV]; rfl
 generalize a7.set b4 _=bO at *
 refine kx m4 (AR ?_)
 rw [cI m2]
 refine ⟨⟨rfl,rfl,by simp⟩,?_⟩
 rw [oW aV]
 refine ⟨by simp [ay],ak.mk (hR _ _ ?_)⟩
 have e:((ay [AV.ah] 0 (au (.agg [eT (ki l).1]))).drop 0).take 1=[eT (ki l).1]:=rfl
 rw [e]
 show AV.aH [.agg [resolve 3 _ (eT (ki l).1)],_]=_
 rw [z6]; rfl
theorem Ns {l:List Nd} (h:gx l=0):∀ x ∈ l,x.text.length <= 12:=by
 obtain ⟨t,rfl,_,h2,_⟩:=EU h
 have:=zM (Tre.bG [t]).length [t] (cX _) (by simp [h2])
 simpa using this
theorem N4 {v:AV} {l:List Nd} (hv:Sl v l):Pure K 8 [.agg [v]] (.bool true):=by
 refine Pure.of (by simp [cA,hv.cl]) rfl (fun U=>rfl) fun R hR=>?_
 refine YL ?_
 unfold abP
 rw [fA rfl]
 intro b1 gQ
 have m1:((bM ⟨.e,0⟩).new b1 (.box (au (.agg [v])))).box b1=some [v]:=aG
 generalize (bM _).new b1 _=aq at *
 refine kx m1 ((SI hv).go ?_)
 simp only [ey,al]
 cases ht:sK l with
 | false =>
   simp only [eQ]
   exact dP (tJ.go (ak.mk (hR _)))
 | true =>
 simp only [c8]
 refine dC ?_
 obtain ⟨hl,l8⟩:=Ag.1 ht
 have l8:∀ x ∈ l,x.text.length <= 3000:=fun x hx=>by have:=l8 x hx; omega
 have cl:=EV hv (by omega)
 have cv:=AF l
 refine kx m1 (cl.go ((Np cv hl l8).go ?_))
 simp only [bu,List.drop,bA]
 refine SS ?_
 by_cases he:(n7 l 0).2=0
 rotate_left
 . simp only [he,eB,eQ]
   exact dP (tJ.go (ak.mk (hR _)))
 simp only [he,du,c8]
 refine dC ?_
 have hc:gx l=0:=Classical.not_not.1 fun hc=>by
  have aaR:kz l 0 ≠ 0:=by rw [qu hc]; exact hc
  rw [Af aaR] at he
  exact aaR he
 obtain ⟨s,hs⟩:∃ s,n7 l 0=(s,0):=⟨(n7 l 0).1,Prod.ext rfl he⟩
 obtain ⟨tB,adt⟩:=LU hc hs
 rw [hs]
 refine (Nj s (by omega)).go ?_
 simp only [Di,bu,List.drop,bA]
 rw [cz]
 intro b5 jP
 have m5:(aq.new b5 (.box [AV.ah])).box b5=some [.ah]:=aG
 have n15:=jP.bP m1
 have m1:=(bg jP (x:=.box [AV.ah])).aX m1
 generalize aq.new b5 (.box [AV.ah])=aR at *
 rw [cI m5]
 refine ⟨⟨rfl,rfl,by simp⟩,?_⟩
 have m1:(aR.set b5 (.box (ay [AV.ah] 0 (au (.agg [eT (ov s).1]))))).box b1=some [v]:=by rw [aO n15]; exact m1
 have m5:(aR.set b5 (.box (ay [AV.ah] 0 (au (.agg [eT (ov s).1]))))).box b5=some [eT (ov s).1]:=by rw [aV]; rfl
 generalize aR.set b5 _=a7 at *
 refine AR ?_
 rcases adt with ⟨u,hu,hub,huc,hul⟩ | ⟨q,hq,hlq⟩
 . rw [hu] at m5 ⊢
   simp only [show decide ((0:Int)=5)=false from rfl]
   refine dC ?_
   have hut:∀ x ∈ u,x.text.length <= 3000:=fun x hx=>by have:=Ns huc x hx; omega
   have agW:u.length <= 1000:=by omega
   have b1':ki l=(fx l,0):=by unfold ki; rw [if_neg (by simp [hc])]
   have b2':ki u=(fx l,0):=by unfold ki; rw [if_neg (by simp [huc]),hub]
   refine kx m1 ((zC hv (by omega) l8).go ?_)
   simp only [bu,List.drop,bA]
   rw [cz]
   intro ik sh
   have m11:(a7.new ik (.box [AV.ah])).box ik=some [.ah]:=aG
   have afR:=sh.bP m5
   have m5:=(bg sh (x:=.box [AV.ah])).aX m5
   generalize a7.new ik (.box [AV.ah])=bO at *
   rw [cI m11]
   refine ⟨⟨rfl,rfl,by simp⟩,?_⟩
   rw [b1']
   have m5:(bO.set ik (.box (ay [AV.ah] 0 (au (.agg [eT (fx l)]))))).box b5=some [eT u]:=by rw [aO afR]; exact m5
   have m11:(bO.set ik (.box (ay [AV.ah] 0 (au (.agg [eT (fx l)]))))).box ik=some [eT (fx l)]:=by rw [aV]; rfl
   generalize bO.set ik _=cG at *
   refine kx m5 ((zC (AF u) (by omega) hut).go ?_)
   simp only [bu,List.drop,bA]
   rw [cz]
   intro Ha aaT
   have m13:(cG.new Ha (.box [AV.ah])).box Ha=some [.ah]:=aG
   have adS:=aaT.bP m11
   have m11:=(bg aaT (x:=.box [AV.ah])).aX m11
   generalize cG.new Ha (.box [AV.ah])=di at *
   rw [cI m13]
   refine ⟨⟨rfl,rfl,by simp⟩,?_⟩
   rw [b2']
   have m11:(di.set Ha (.box (ay [AV.ah] 0 (au (.agg [eT (fx l)]))))).box ik=some [eT (fx l)]:=by rw [aO adS]; exact m11
   have m13:(di.set Ha (.box (ay [AV.ah] 0 (au (.agg [eT (fx l)]))))).box Ha=some [eT (fx l)]:=by rw [aV]; rfl
   generalize di.set Ha _=mK at *
   simp only [br,al,du,bf,gR,aN,cx,aJ,aM,if_true]
   rw [yb m11]
   refine ⟨by simp,?_⟩
   rw [yb m13]
   refine ⟨by simp,?_⟩
   have wz:(fx l).length <= 1000000:=by simp [fx]; omega
   refine oF (show Pure K 22 _ (.bool true) from by simpa using Qh (fx l) (fx l) wz wz) ?_
   simp only [aM,if_true,al,bf,gR,aN,cx,aJ]
   refine oF tJ ?_
   exact ak.mk (hR _)
 . rw [hq]
   simp only [du]
   refine dP ((vU s (by omega)).go ?_)
   rw [hlq]
   simp only [ta,bu,List.drop,bA,br,al,du,bf,gR,aN,cx,aJ]
   rw [show cw (some false) AV.ah=.val (.int .i64 0) from rfl,aJ,br,aJ]
   simp only [du,aM,if_true,al,bf,gR,aN,cx]
   refine oF tJ ?_
   exact ak.mk (hR _)
end Go.Rip
