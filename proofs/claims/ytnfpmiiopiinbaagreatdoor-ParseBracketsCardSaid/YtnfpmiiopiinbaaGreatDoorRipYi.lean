/- Lemmas for the proof: no conditions. -/
import Derived.Test.YtnfpmiiopiinbaaGreatDoorRipZz
import Derived.Test.YtnfpmiiopiinbaaGreatDoorRipYh
import Derived.Test.YtnfpmiiopiinbaaGreatDoorRipYf
import Derived.Test.YtnfpmiiopiinbaaGreatDoorRipE
import Derived.Test.YtnfpmiiopiinbaaGreatDoorRipP
import Derived.Test.YtnfpmiiopiinbaaGreatDoorRipYc
import Derived.Test.YtnfpmiiopiinbaaGreatDoorRipF
import Derived.Test.YtnfpmiiopiinbaaGreatDoorRipYb
import Derived.Test.YtnfpmiiopiinbaaGreatDoorRipX
import Derived.Test.YtnfpmiiopiinbaaGreatDoorRipAw
set_option linter.unusedVariables false
set_option linter.unusedSimpArgs false
set_option linter.loopingSimpArgs false
namespace Go.Rip
open Go.Proofs Go.RowKit
theorem wa {x:Tx} (h:jK x):x.2.length<=12:=by
 have key:∀ w∈lW++jt,w.length<=12:=by decide
 rcases ql h.2 with k|k|k|k
 . exact k.2.2.1
 . have:=wQ h.1 (D4 (by rw[h.2,k.1]) h.1); omega
 . exact key _ (List.mem_append_left _ k.2)
 . exact key _ (List.mem_append_right _ k.2)
def Ay (s:aG):List AV:=s.map λ c=>.int .u8 c.toNat
def Fz (U ad:St):Prop:=∀ c x,U.live c=some x->(∀ t,x=.tok t->t.e≠51)->ad.live c=some x
def GY (b:Nat) (U ad:St):Prop:=∀ c x,c≠b->U.live c=some x->(∀ t,x≠.tok t)->ad.live c=some x
section
variable {b c:Nat} {U ar aS ad:St} {s t:aG} {R:cV->St->Prop}
theorem Fz.refl (U:St):Fz U U:=λ _ _ h _=>h
theorem Fz.trans (h:Fz U aS) (k:Fz aS ad):Fz U ad:=λ c x e t=>k c x (h c x e t) t
theorem Fz.nS (h:cX U ad):Fz U ad:=λ c x e _=>h c x e
theorem Fz.fr (h:Fz U ad):GY b U ad:=λ c x _ e t=>h c x e λ t' e'=>absurd e' (t t')
theorem GY.aY (h:GY b U ad) (n:c≠b) {y:List AV} (k:U.box c=some y):ad.box c=some y:=by
 cases e:U.live c with
 | none=>simp[St.box,e]at k
 | some x =>
   rw[dS ((h c x n e ?_).trans e.symm)]; exact k;intro t ht;subst ht;simp[St.box,e]at k
theorem GY.loop (h:GY b U ad) (n:c≠b) {L:gm} (k:U.loop c=some L):ad.loop c=some L:=by
 cases e:U.live c with
 | none=>simp[St.loop,e]at k
 | some x =>
   rw[gU ((h c x n e ?_).trans e.symm)]; exact k;intro t ht;subst ht;simp[St.loop,e]at k
theorem Fz.aY (h:Fz U ad) {y:List AV} (k:U.box c=some y):ad.box c=some y:=(h.fr (b:=c+1)).aY (by omega) k
theorem Fz.loop (h:Fz U ad) {L:gm} (k:U.loop c=some L):ad.loop c=some L:=(h.fr (b:=c+1)).loop (by omega) k
theorem Fz.tok (h:Fz U ad) {t:Tok} (ht:t.e≠51) (k:U.tok c=some t):ad.tok c=some t:=by
 cases e:U.live c with
 | none=>simp[St.tok,e]at k
 | some x =>
   rw[nP ((h c x e ?_).trans e.symm)]; exact k;intro t' r9;subst r9;simp[St.tok,e]at k;subst k;exact ht
def NK (ar:St) (c:Nat):Prop:=∀ x,ar.live c=some x->∃ t,x=.tok t/\t.e=51
theorem NK.of (h:ar.live c=none):NK ar c:=λ x e=>by rw[h]at e; cases e
theorem Fz.nk (h:Fz ar U) (k:U.live c=none):NK ar c:=λ x e=>by
 refine Classical.not_not.1 λ hn=>?_;have:=h c x e λ t ht e51=>hn ⟨t,ht,e51⟩;rw[k]at this; cases this
theorem NK.ne {d:Nat} {x:Live} (h:NK ar c) (e:ar.live d=some x) (ht:∀ t,x=.tok t->t.e≠51):d≠c:=by
 rintro rfl;obtain⟨t,h1,h2⟩:=h x e;exact ht t h1 h2
theorem Fz.jG {bf:St} (h:Fz ar U) (n:NK ar c) (hs:∀ d,d≠c->bf.live d=U.live d):Fz ar bf:=λ d x e ht=>by
 rw[hs d (n.ne e ht)]; exact h d x e ht
structure Bu (ar U:St) (b:Nat) (s:aG):Prop where
 at_:(s=[]/\(U.live b=some (.uS 158 [.a8,.ag])\/U.box b=some [.box b 0,.ag]))\/(s≠[]/\∃ τ,U.box b=some [.box b 0,.vec s.length (.own τ) (Ay s)]/\U.tok τ=some ⟨s.length,5,1⟩/\NK ar τ)
 new:NK ar b
 fz:Fz ar U
theorem Bu.mono (h:Bu ar U b s) (e:Fz U ad):Bu ar ad b s:=by
 refine⟨?_,h.new,h.fz.trans e⟩;rcases h.at_ with ⟨h0,h|h⟩|⟨h0,τ,h,k,k2⟩
 . exact .inl ⟨h0,.inl (e _ _ h λ t e=>by cases e)⟩
 . exact .inl ⟨h0,.inr (e.aY h)⟩
 . exact .inr ⟨h0,τ,e.aY h,e.tok (show (5:Nat)≠51 by decide) k,k2⟩
theorem Bu.jG {o:Nat} {z:gm} {bf:St} (h:Bu ar U b s) (hn:NK ar o) (ho:U.loop o=some z) (hs:∀ c,c≠o->bf.live c=U.live c):Bu ar bf b s:=by
 have NW:b≠o:=by
  rintro rfl;rcases h.at_ with ⟨_,h|h⟩|⟨_,τ,h,_⟩
  . unfold St.loop at ho; rw[h]at ho; cases ho
  . exact bY h ho rfl
  . exact bY h ho rfl
 refine⟨?_,h.new,h.fz.jG hn hs⟩;rcases h.at_ with ⟨h0,h|h⟩|⟨h0,τ,h,k,k2⟩
 . exact .inl ⟨h0,.inl (by rw[hs b NW]; exact h)⟩
 . exact .inl ⟨h0,.inr (by rw[dS (hs b NW)]; exact h)⟩
 . exact .inr ⟨h0,τ,by rw[dS (hs b NW)]; exact h,by rw[nP (hs τ (tZ k ho))]; exact k,k2⟩
def Zc (ar:St) (v:AV):Prop:=∀ n τ l,v=.vec n (.own τ) l->NK ar τ
theorem JP {K':AV->St->Prop} {Kp:AV->St->Prop} (h:Bu ar U b s) (hk:∀ ad v,(∀ c,c≠b->ad.live c=U.live c)->ad.box b=some [.box b 0,v]->Grow ad v 5 1 s.length (Ay s)->(s.length=0->v=.ag)->Zc ar v->Fz ar ad->K' (.aK []) ad):ae K 190 [.box b 0] U (ah K' Kp):=by
 rcases h.at_ with ⟨h0,h'|h'⟩|⟨h0,τ,h',k,k2⟩
 . subst h0;exact wo h' (hk _ _ (λ c hc=>nx hc) aT (.inl ⟨rfl,rfl,rfl⟩) (λ _=>rfl) (λ _ _ _ e=>by cases e) (h.fz.jG h.new λ c hc=>nx hc))
 . subst h0;exact tm h' (hk U _ (λ c _=>rfl) h' (.inl ⟨rfl,rfl,rfl⟩) (λ _=>rfl) (λ _ _ _ e=>by cases e) h.fz)
 . refine tm h' (hk U _ (λ c _=>rfl) h' (.inr ⟨τ,rfl,k,by simp[Ay]⟩) (λ e=>absurd (rL.1 e) h0) (λ _ _ _ e=>?_) h.fz);simp only[AV.vec.injEq,mr.own.injEq]at e;rw[<- e.2.1]; exact k2
theorem RL {y v:AV} {K':AV->St->Prop} {Kp:AV->St->Prop} (ht:t≠[]) (hy:pa U y=some (t.length,Ay t)) (hb:U.box b=some [.box b 0,v]) (hg:Grow U v 5 1 s.length (Ay s)) (h0:s.length=0->v=.ag) (hl:s.length+t.length<=4294967296) (hn:Zc ar v) (hf:Fz ar U)
 (hk:∀ aS v',Grow aS v' 5 1 (s++t).length (Ay (s++t))->aS.box b=some [.box b 0,v]->(∀ c x,U.live c=some x->(∀ t,x≠.tok t)->aS.live c=some x)->Zc ar v'->Fz ar aS->K' v' aS):(dB (some (5,1)) false v y U).wp K U K' Kp:=by
 have tb:0<t.length:=List.length_pos_iff.2 ht;refine FM hg hy (by simp[Ay]) tb hl h0 λ aS v' g e1 n1=>?_;have sA:∀ c x,U.live c=some x->(∀ t,x≠.tok t)->aS.live c=some x:=λ c x hx Ab=>e1 c x (λ n l hv=>by
  rcases hg with ⟨_,_,g⟩|⟨τ,g,r9,_⟩
  . rw[g]at hv; cases hv
  . rw[g]at hv; cases hv;unfold St.tok at r9;rw[hx]at r9;split at r9
    . rename_i t' e'; cases e'; exact Ab _ rfl
    . cases r9) hx
 refine hk aS v' (by rw[cO]; simpa [Ay] using g) ((oO hg e1).1 hb) sA (λ n τ l hv=>?_) λ c x hx Ab=>?_
 . rcases n1 n τ l hv with hz|⟨n2,l2,hv2⟩
   . exact hf.nk hz
   . exact hn _ _ _ hv2
 . exact e1 c x (λ n l hv=>(hn _ _ _ hv).ne hx Ab rfl) (hf c x hx Ab)
theorem JQ {v v':AV} {K':AV->St->Prop} {Kp:AV->St->Prop} (hs:s≠[]) (hb:U.box b=some [.box b 0,v]) (g:Grow U v' 5 1 s.length (Ay s)) (hn:Zc ar v') (ZG:NK ar b) (hf:Fz ar U) (hk:∀ aS,Bu ar aS b s->(∀ c,c≠b->aS.live c=U.live c)->K' (.aK []) aS):(aI (some (false,1)) (.box b 1) v' U).wp K U K' Kp:=by
 rcases g with ⟨h0,_,_⟩|⟨τ,rfl,r2,r3⟩
 . exact absurd (rL.1 h0) hs
 rw[cI hb];have pQ:∀ c,c≠b->(U.set b (.box (ay [.box b 0,v] 1 (av (.vec s.length (.own τ) (Ay s)))))).live c=U.live c:=λ c hc=>by rw[dW,if_neg hc]
 exact⟨⟨rfl,rfl,by simp⟩,hk _ ⟨.inr ⟨hs,τ,by rw[aT]; rfl,by rw[iL (fB hb r2).symm]; exact r2,hn _ _ _ rfl⟩,ZG,hf.jG ZG pQ⟩ pQ⟩
theorem acm (t:aG):pa U (.str t)=some (t.length,Ay t):=rfl
theorem Hb {K':AV->St->Prop} {Kp:AV->St->Prop} (ht:t≠[]) (h:Bu ar U b s) (hl:s.length+t.length<=100000000) (hk:∀ y ad,Bu ar ad b (s++t)->GY b U ad->K' y ad):ae K 125 [.box b 0,.str t] U (ah K' Kp):=by
 refine Uu ?_;unfold Ut;refine JP h λ aS v pQ hb hg h0 hn hf=>?_;simp only[bW,al];refine gR (ej hb rfl ?_);refine RL ht (acm t) hb hg h0 (by omega) hn hf λ bf v' g2 gz gD EH Ks=>gR ?_;refine JQ (s:=s++t) (by simp[ht]) gz g2 EH h.new Ks λ bR h3 Xp=>?_;show (cr (some true) (AV.str t)).wp K bR _ _;rw[show cr (some true) (AV.str t)=.val (.int .i64 t.length) from rfl,al];refine aq.mk (hk _ _ h3 λ c x hc hx Ab=>?_);rw[Xp c hc];exact gD c x (by rw[pQ c hc]; exact hx) Ab
theorem aa8 {c:UInt8} {K':AV->St->Prop} {Kp:AV->St->Prop} (h:Bu ar U b s) (hl:s.length<=100000) (hk:∀ y ad,Bu ar ad b (s++[c])->GY b U ad->K' y ad):ae K 189 [.box b 0,.int .u8 c.toNat] U (ah K' Kp):=by
 refine Vn ?_;unfold Vm;refine JP h λ aS v pQ hb hg h0 hn hf=>?_;simp only[bW,al];refine gR (ej hb rfl ?_);refine Jw rfl rfl ?_;refine RL (t:=[c]) (by simp) rfl hb hg h0 (by simp; omega) hn hf λ bf v' g2 gz gD EH Ks=>gR ?_;refine JQ (s:=s++[c]) (by simp) gz g2 EH h.new Ks λ bR h3 Xp=>?_;refine aq.mk (hk _ _ h3 λ c x hc hx Ab=>?_);rw[Xp c hc];exact gD c x (by rw[pQ c hc]; exact hx) Ab
theorem RI {K':AV->St->Prop} {Kp:AV->St->Prop} (h:Bu ar U b s) (hk:K' (.int .i64 s.length) U):ae K 126 [.box b 0] U (ah K' Kp):=by
 refine Uw ?_;unfold Uv;simp only[bW,al];rcases h.at_ with ⟨h0,h'⟩|⟨h0,τ,h',k,_⟩
 . subst h0;obtain⟨x,hx⟩:∃ x,U.box b=some [x,.ag]:=by
    rcases h' with h|h
    . exact⟨.a8,by simp[St.box,h]⟩
    . exact⟨_,h⟩
   refine gR (ej hx rfl ?_);exact aq.mk hk
 . refine gR (ej h' rfl ?_);exact aq.mk hk
theorem RJ {K':AV->St->Prop} {Kp:AV->St->Prop} (h:Bu ar U b s) (hk:∀ ad,GY b U ad->Fz ar ad->K' (.str s) ad):ae K 127 [.box b 0] U (ah K' Kp):=by
 rcases h.at_ with ⟨h0,h'⟩|⟨h0,τ,h',k,k2⟩
 . subst h0;obtain⟨x,hx⟩:∃ x,U.box b=some [x,.ag]:=by
    rcases h' with h|h
    . exact⟨.a8,by simp[St.box,h]⟩
    . exact⟨_,h⟩
   exact uh hx (hk U (λ c x _ hx _=>hx) h.fz)
 . refine xN h0 h' k (hk _ (λ c x _ hx Ab=>?_) (h.fz.jG k2 λ c hc=>by rw[jX,if_neg hc]));rw[jX,if_neg]
   . exact hx
   . rintro rfl;unfold St.tok at k;rw[hx]at k;split at k
     . rename_i t' e'; cases e'; exact Ab _ rfl
     . cases k
end
theorem Mq {x:Tx} (h:jK x):Pure K 156 [.agg (lh x)] (.bool true):=by
 have hs:=wa h;refine Pure.of rfl rfl (λ U=>rfl) λ R hR=>?_;refine Iu ?_;unfold LR;rw[gd rfl];intro b1 iN;have m1:((bU ⟨.e,0⟩).new b1 (.box (av (.agg (lh x))))).box b1=some (lh x):=aD;generalize (bU _).new b1 _=ar at *;refine gR (ej m1 rfl ((yT x.2 (by omega)).go ?_));rw[h.2];simp only[GP,bp,List.drop,bC];rw[cm];intro b3 lu;have m3:(ar.new b3 (.box [AV.int .u8 0,AV.str [],AV.int .i64 0])).box b3=some [AV.int .u8 0,AV.str [],AV.int .i64 0]:=aD;have n13:=lu.bO m1;have m1:=(bg lu (x:=.box [AV.int .u8 0,AV.str [],AV.int .i64 0])).aY m1;generalize ar.new b3 _=aS at *;rw[cI m3];refine⟨⟨rfl,rfl,by simp⟩,?_⟩;have m3:(aS.set b3 (.box (ay [AV.int .u8 0,AV.str [],AV.int .i64 0] 0 (av (.agg [.int .u8 x.1,.str x.2,.int .i64 0]))))).box b3=some (lh x):=by rw[aT]; rfl
 have m1:(aS.set b3 (.box (ay [AV.int .u8 0,AV.str [],AV.int .i64 0] 0 (av (.agg [.int .u8 x.1,.str x.2,.int .i64 0]))))).box b1=some (lh x):=by rw[aO n13]; exact m1
 generalize aS.set b3 _=bf at *;simp only[bA,al,dG,bo,iY,aP,cB];refine jL (eZ m3 rfl (jL (eZ m1 rfl ?_)));simp only[bA,aJ,dG,aQ,if_true,al,bo,iY,aP,cB];refine jL (eZ m3 rfl (jL (eZ m1 rfl ?_)));simp only[gZ,aJ,dG,aQ,if_true,al];exact aq.mk (hR _)
theorem Pg (a b:Tx):Pure K 188 [.agg (lh a),.agg (lh b)] (.bool (fG a b)):=by
 refine Pure.of rfl rfl (λ U=>rfl) λ R hR=>?_;refine Vl ?_;unfold Vk;rw[gd rfl];intro b2 gz;have m2:((bU ⟨.e,0⟩).new b2 (.box (av (.agg (lh a))))).box b2=some (lh a):=aD;generalize (bU _).new b2 _=ar at *;rw[gd rfl];intro b3 lu;have m3:(ar.new b3 (.box (av (.agg (lh b))))).box b3=some (lh b):=aD;have m2:=(bg lu (x:=.box (av (.agg (lh b))))).aY m2;generalize ar.new b3 _=aS at *;have e1:∀ n:Nat,decide ((n:Int)=4)=(n==4):=λ n=>by
  rw[qO,eg,beq_iff_eq]; omega
 refine gR (ej m2 rfl ?_);rw[c8,al,e1];have Hp:=hR;unfold fG at Hp;have rest:(a.1 != 4&&b.1 != 4)=false->(af (some 1) (.box b2 0)).wp K aS (λ cn U =>
  (ak (some (false,1)) cn U).wp K U (λ cA U =>
  (aw .eql (BT.mk false false false none false) true cA (AV.str dk)).wp K U (λ cz U =>
  ao K (aM cz true) (af (some 1) (.box b3 0)) (λ dq =>
  ao K (aM cz true) (ak (some (false,1)) dq U) (λ cw =>
  ao K (aM cz true) (aw .eql (BT.mk false false false none false) true cw (AV.str gP)) (λ dt =>
  (bN cz dt (AV.bool false)).wp K U (λ v20 U =>
  aq R v20 U) (aa R))))) (aa R)) (aa R)) (aa R):=by
  intro h0;rw[h0,Bool.false_or]at Hp;have e2:∀ s t:aG,decide (s=t)=(s==t):=λ s t=>by
   by_cases h:s=t<;>simp[h]
  refine gR (ej m2 rfl ?_);rw[gZ,al,e2];cases h1:(a.2==dk) with
  | true =>
    simp only[bo,iY,aP,cB];refine jL (eZ m3 rfl ?_);rw[gZ,aJ,e2];simp only[aQ,if_true,al];rw[h1,Bool.true_and]at Hp;exact aq.mk (Hp _)
  | false =>
    simp only[bo,show (false==true)=false from rfl,aP,cN,aQ,bZ,if_false,al];rw[h1,Bool.false_and]at Hp;exact aq.mk (Hp _)
 cases h1:(a.1==4) with
 | true =>
   simp only[dm,bo,show (false==true)=false from rfl,aP,cN,aQ,bZ,if_false,al];exact cY (rest (by simp only[bne,h1,dm,Bool.false_and]))
 | false =>
   simp only[fx,bo,iY,aP,cB];refine jL (eZ m3 rfl ?_);rw[c8,aJ,e1];simp only[aQ,if_true,al];cases h2:(b.1==4) with
   | true=>exact cY (rest (by simp only[bne,h1,h2,dm,fx,Bool.and_false]))
   | false =>
     refine dz (aq.mk ?_);have:(a.1 != 4&&b.1 != 4)=true:=by simp only[bne,h1,h2,fx,Bool.and_self]
     rw[this,Bool.true_or]at Hp;exact Hp _
section
variable {U ad:St} {vl:AV} {l:List Tx} {R:cV->St->Prop}
theorem Wj (l:List Tx) (i:Nat):(pd l).drop (i*3)=pd (l.drop i):=by
 induction l generalizing i with
 | nil=>simp[pd]
 | cons t l ih =>
   cases i with
   | zero=>simp
   | succ i =>
     rw[Nat.add_mul,show i*3+1*3=3+i*3 by omega,<- List.drop_drop,List.drop_succ_cons,<- ih];rfl
theorem O6 {i:Nat} {x:Tx} (h:l[i]?=some x):∃ r,(pd l).drop (i*3)=lh x++r:=by
 rw[Wj,gM (dp.1 h).1];refine⟨pd (l.drop (i+1)),?_⟩;have:=(dp.1 h).2;simp[pd,this]
theorem afZ {i:Nat} {x:Tx} {K':AV->St->Prop} {Kp:AV->St->Prop} (hv:eW vl l.length (pd l)) (hx:l[i]?=some x) (hk:K' (.agg (lh x)) U) :
 (aE (some (51,3)) none vl (.int .i64 (i:Nat))).wp K U (λ p U=>(ak (some (true,3)) p U).wp K U K' Kp) Kp:=by
 have aN:=(dp.1 hx).1;obtain⟨r,hr⟩:=O6 hx;rcases hv with ⟨h1,_,_⟩|⟨c,rfl⟩
 . omega
 . rw[zN,fW,hr];refine⟨by omega,?_⟩;rw[tS];exact⟨by simp[lh],hk⟩
theorem ajq {i:Nat} {x:Tx} {k:AV->Prop} (hv:eW vl l.length (pd l)) (hx:l[i]?=some x) (hk:k (.agg (lh x))) :
 az K (aE (some (51,3)) none vl (.int .i64 (i:Nat))) λ p=>az K (ak (some (true,3)) p U) k:=by
 have aN:=(dp.1 hx).1;obtain⟨r,hr⟩:=O6 hx;rcases hv with ⟨h1,_,_⟩|⟨c,rfl⟩
 . omega
 . rw[LA,fW,hr];refine⟨by omega,?_⟩;rw[OS];exact⟨by simp[lh],hk⟩
theorem acr (hv:eW vl l.length (pd l)) (ho:∀ x∈l,jK x) (hl:l.length<=1000000) (h:∀ ad,cX U ad->R (.ret (.int .i64 (if 900<l.length then 5 else 0))) ad):ae K 93 [vl] U R:=by
 refine LY ?_;unfold QT;rw[hv.len,al,eM,al];refine ic (λ h9=>?_) λ h9=>?_
 . rw[if_pos (by omega)]at h;exact aq.mk (h _ (cX.refl U))
 rw[if_neg (by omega)]at h;rw[al];refine⟨λ m w8 w9 wZ ad=>∃ i:Nat,m=l.length-i/\i<=l.length/\w8=vl/\w9=.int .i64 l.length/\wZ=.int .i64 (i:Nat)/\cX U ad,⟨_,0,rfl,by omega,rfl,rfl,rfl,cX.refl U⟩,?_⟩;rintro m w8 w9 wZ aS ⟨i,rfl,hi,rfl,rfl,rfl,e1⟩;rw[bV,al];refine ic (λ aN=>?_) λ kV=>aq.mk (h _ e1);have aN:i<l.length:=by omega
 obtain⟨x,hx⟩:∃ x,l[i]?=some x:=⟨l[i],by simp[aN]⟩;refine afZ hv hx ?_;rw[cm];intro b4 gk;have m4:(aS.new b4 (.box [AV.int .u8 0,AV.str [],AV.int .i64 0])).box b4=some [AV.int .u8 0,AV.str [],AV.int .i64 0]:=aD;have e2:=e1.new gk (x:=.box [AV.int .u8 0,AV.str [],AV.int .i64 0]);have f4:=e1.fresh gk.1;generalize aS.new b4 _=bf at *;rw[cI m4];refine⟨⟨rfl,rfl,by simp[lh]⟩,?_⟩;have m4:(bf.set b4 (.box (ay [AV.int .u8 0,AV.str [],AV.int .i64 0] 0 (av (.agg (lh x)))))).box b4=some (lh x):=by rw[aT]; rfl
 have e3:=e2.set f4 (x:=.box (ay [AV.int .u8 0,AV.str [],AV.int .i64 0] 0 (av (.agg (lh x)))));generalize bf.set b4 _=bR at *;rw[ph m4];refine⟨by simp[lh],(Mq (ho x (gw hx))).go ?_⟩;simp only[eT,al,dm];refine cY ?_;rw[dO];exact⟨bI (by omega) (by omega),l.length-(i+1),by omega,i+1,rfl,by omega,rfl,rfl,by simp,e3⟩
theorem FD:∀ (l:List Tx) (a b:Tx),cR (l++[a,b])=cR (l++[a])++(if fG a b then [32] else [])++b.2
 | [],a,b=>by simp[cR]
 | [c],a,b=>by simp[cR]
 | c::d::l,a,b=>by
   have:=FD (d::l) a b;simp only[dK,nA]at this ⊢;rw[this]; simp
theorem IF:∀ (l:List Tx),(∀ x∈l,jK x)->(cR l).length<=13*l.length
 | [],_=>by simp[cR]
 | [a],h=>by have:=wa (h a (by simp)); simp[cR]; omega
 | a::b::l,h=>by
   have h1:=wa (h a (by simp));have h2:=IF (b::l) λ x hx=>h x (by simp only[cK]at hx ⊢; exact .inr hx);rw[nA,cO,cO];have:(if fG a b=true then [(32:UInt8)] else []).length<=1:=by split<;>simp
   simp only[eX]at h2 ⊢;omega
end
end Go.Rip
namespace Go.Rip
open Go.Proofs Go.RowKit
section
variable {U ad:St} {vl:AV} {l:List Tx} {R:cV->St->Prop}
theorem YN (hv:eW vl l.length (pd l)) (ho:∀ x∈l,jK x) (hl:l.length<=1000000) (h:∀ ad,Fz U ad->R (.ret (.aK [.str (fA l).1,.int .i64 (fA l).2])) ad):ae K 124 [vl] U R:=by
 refine Us ?_;unfold Ur;refine acr hv ho hl λ aS e1=>?_;rw[bE,c8,al]
 by_cases h9:900<l.length
 . have hE:fA l=([],5):=by unfold fA; rw[if_pos h9]
   rw[if_pos h9];simp only[show decide ((5:Int)=0)=false from rfl,fx];refine dz (aq.mk ?_);rw[hE]at h;exact h _ (.nS e1)
 rw[if_neg h9];simp only[dG,dm];refine cY ?_;rw[lR];intro b5 lx;rw[show NV.at b5 .box=AV.box b5 0 from rfl];have hB:Bu aS (aS.new b5 (.uS 158 [.a8,.ag])) b5 []:=⟨.inl ⟨rfl,.inl (by rw[nJ,if_pos rfl])⟩,.of lx.1,.nS (bg lx)⟩;generalize aS.new b5 _=bf at *;rw[hv.len,al];have tb:∀ i,(cR (l.take i)).length<=13*l.length:=λ i=>by
  have:=IF (l.take i) λ x hx=>ho x (List.mem_of_mem_take hx);rw[List.length_take]at this; omega
 refine⟨λ m w0 w5 BU w14 w15 ad=>∃ i:Nat,m=l.length-i/\i<=l.length/\vl=w0/\w5=.box b5 0/\vl=BU/\w14=.int .i64 l.length/\w15=.int .i64 (i:Nat)/\Bu aS ad b5 (cR (l.take i)),⟨_,0,rfl,by omega,rfl,rfl,rfl,rfl,rfl,by simpa [cR] using hB⟩,?_⟩;clear hB;rintro m w0 w5 BU w14 w15 bR ⟨i,rfl,hi,rfl,rfl,rfl,rfl,rfl,hB⟩;rw[bV,al];refine ic (λ aN=>?_) λ kV=>?_
 . have aN:i<l.length:=by omega
   obtain⟨x,hx⟩:∃ x,l[i]?=some x:=⟨l[i],by simp[aN]⟩;have Hz:=ho x (gw hx);refine afZ hv hx ?_;rw[cm];intro b7 nR;have m7:(bR.new b7 (.box [AV.int .u8 0,AV.str [],AV.int .i64 0])).box b7=some [AV.int .u8 0,AV.str [],AV.int .i64 0]:=aD;have f7:=hB.fz.nk nR.1;have hB2:=hB.mono (.nS (bg nR (x:=.box [AV.int .u8 0,AV.str [],AV.int .i64 0])));have n75:b7≠b5:=by
    rintro rfl;rcases hB.at_ with ⟨_,h'|h'⟩|⟨_,τ,h',_⟩
    . rw[nR.1]at h'; cases h'
    . exact ct h' nR.1
    . exact ct h' nR.1
   have e7:=bg nR (x:=.box [AV.int .u8 0,AV.str [],AV.int .i64 0]);have ag1:∀ {τ:Nat} {tt:Tok},(bR.new b7 (.box [AV.int .u8 0,AV.str [],AV.int .i64 0])).tok τ=some tt->τ≠b7:=λ ht=>(fB m7 ht).symm;generalize bR.new b7 _=cP at *;rw[cI m7];refine⟨⟨rfl,rfl,by simp[lh]⟩,?_⟩;have Z6:(cP.set b7 (.box (ay [AV.int .u8 0,AV.str [],AV.int .i64 0] 0 (av (.agg (lh x)))))).box b7=some (lh x):=by rw[aT]; rfl
   have hB3:Bu aS (cP.set b7 (.box (ay [AV.int .u8 0,AV.str [],AV.int .i64 0] 0 (av (.agg (lh x)))))) b5 (cR (l.take i)):=by
    have hs:∀ c,c≠b7->(cP.set b7 (.box (ay [AV.int .u8 0,AV.str [],AV.int .i64 0] 0 (av (.agg (lh x)))))).live c=cP.live c:=λ c hc=>by rw[dW,if_neg hc]
    refine⟨?_,hB2.new,hB2.fz.jG f7 hs⟩;rcases hB2.at_ with ⟨h0,h'|h'⟩|⟨h0,τ,h',k,k2⟩
    . exact .inl ⟨h0,.inl (by rw[hs _ n75.symm]; exact h')⟩
    . exact .inl ⟨h0,.inr (by rw[dS (hs _ n75.symm)]; exact h')⟩
    . exact .inr ⟨h0,τ,by rw[dS (hs _ n75.symm)]; exact h',by rw[nP (hs τ (ag1 k))]; exact k,k2⟩
   generalize cP.set b7 _=du at *;intro j hj;have tail:∀ (s:aG) (ad:St),Bu aS ad b5 s->ad.box b7=some (lh x)->s++x.2=cR (l.take (i+1))->s.length<=50000->j vl (.box b5 0) (.box b7 0) vl (.int .i64 l.length) (.int .i64 (i:Nat)) ad:=by
    intro s ad vE m7 e sC;refine hj _ _ _ _ _ _ _ ?_;refine gR (ej m7 rfl ?_);have CY:=wa Hz;refine Hb Hz.1 vE (by omega) λ y ju aiy _=>?_;rw[dO];exact⟨bI (by omega) (by omega),l.length-(i+1),by omega,i+1,rfl,by omega,rfl,rfl,rfl,rfl,by simp,by rw[<- e]; exact aiy⟩
   have p7:l.take (i+1)=l.take i++[x]:=by rw[tK,hx]; rfl
   have hti:=tb i;rw[eM,aJ]
   by_cases AW:i=0
   . subst AW;simp only[show decide ((0:Int)<((0:Nat):Int))=false from rfl,bo,show (false==true)=false from rfl,aP,cN,aQ,bZ,if_false,aJ];refine cY (tail _ du hB3 Z6 ?_ (by simp[cR]));rw[p7]; simp[cR]
   . obtain⟨k,rfl⟩:∃ k,i=k+1:=⟨i-1,by omega⟩;obtain⟨y,hy⟩:∃ y,l[k]?=some y:=⟨l[k]'(by omega),by simp[show k<l.length by omega]⟩;have ai3:l.take (k+1)=l.take k++[y]:=by rw[tK,hy]; rfl
     have Ae:cR (l.take (k+1+1))=cR (l.take (k+1))++(if fG y x then [32] else [])++x.2:=by
      rw[p7,ai3,dc]; exact FD _ _ _
     have aiB:decide ((0:Int)<((k+1:Nat):Int))=true:=decide_eq_true (by omega);simp only[aiB,bo,iY,aP,cB,aJ];rw[aht];refine⟨bI (by omega) (by omega),?_⟩;have rX:(((k+1:Nat):Int)-1)=((k:Nat):Int):=by omega
     rw[rX];refine ajq hv hy ?_;rw[zA Z6];refine⟨by simp[lh],?_⟩;rw[show ((lh x).drop 0).take 3=lh x from rfl];refine oz (Pg y x) ?_;simp only[aQ,if_true,aJ];cases xX:fG y x with
     | true =>
       refine dz ?_;rw[xX,if_pos rfl]at Ae;refine aa8 (c:=32) hB3 (by omega) λ yy mh hB6 f6=>?_;refine tail _ mh hB6 (f6.aY n75 Z6) Ae.symm (by simp; omega)
     | false =>
       refine cY (tail _ du hB3 Z6 ?_ (by omega));rw[xX]at Ae;rw[Ae]; simp
 . have hi:i=l.length:=by omega
   subst hi;rw[tJ]at hB;refine RI hB ?_;rw[eM,al];refine ic (λ uL=>?_) λ uL=>?_
   . have hE:fA l=([],5):=by unfold fA; rw[if_neg h9,if_pos (by omega)]
     rw[hE]at h;exact aq.mk (h _ ((Fz.nS e1).trans hB.fz))
   . have hE:fA l=(cR l,0):=by unfold fA; rw[if_neg h9,if_neg (by omega)]
     rw[hE]at h;refine RJ hB λ cP _ hf=>aq.mk (h _ ((Fz.nS e1).trans hf))
end
def kS (ks:List (Int×List Tx)):Nat:=(ks.map λ y=>y.2.length+3).sum
theorem Gm {c:Prop} [Decidable c] {A B:List Tx} {n:Nat} (h1:c->A.length<=n) (h2:¬ c->B.length<=n):(if c then A else B).length<=n:=by
 split
 . exact h1 ‹_›
 . exact h2 ‹_›
theorem DX (w:aG):∀ (ls:List (List Tx)),(dh w ls).length<=(ls.map λ l=>l.length+1).sum
 | []=>by simp[dh]
 | [l]=>by simp[dh]
 | l::m::ls=>by
   have:=DX w (m::ls);rw[dh];simp only[cO,eX,dH,List.sum_cons]at this ⊢;omega
theorem GM (w:aG) (ks:List (Int×List Tx)):(dh w (ks.map (·.2))).length<=kS ks:=by
 refine Nat.le_trans (DX _ _) ?_;unfold kS
 induction ks with
 | nil=>simp
 | cons y ks ih=>simp only[dH,List.sum_cons]at ih ⊢; omega
theorem xM (k:Int) (n:Nat) (l:List Tx):(dP k n l).length<=l.length+2:=by
 unfold dP;split
 . omega
 . simp
theorem afh (ks:List (Int×List Tx)):(dh cC (ks.map λ x=>dP x.1 1 x.2)).length<=kS ks:=by
 refine Nat.le_trans (DX _ _) ?_;unfold kS
 induction ks with
 | nil=>simp
 | cons y ks ih =>
   have:=xM y.1 1 y.2;simp only[dH,List.sum_cons]at ih ⊢; omega
theorem K5 (a b:List (Int×List Tx)):kS (a++b)=kS a+kS b:=by simp[kS]
theorem aek:∀ (ks:List (Int×List Tx)),(ks.getD 0 (0,[])).2.length+(ks.getD 1 (0,[])).2.length+(ks.getD 2 (0,[])).2.length<=kS ks
 | []=>by simp[kS]
 | [a]=>by simp[kS]
 | [a,b]=>by simp[kS]; omega
 | a::b::c::ks=>by simp[kS]; omega
theorem aei (w:aG) (ks:List (Int×List Tx)):(dh w ((ks.map (·.2)).take (ks.length-1))).length+(ks.getD (ks.length-1) (0,[])).2.length<=kS ks:=by
 cases ks with
 | nil=>simp[dh,kS]
 | cons y r =>
   obtain⟨q,x,hq⟩:=ny (l:=y::r) (by simp);rw[hq];have:=GM w q;have e:(q++[x]).length-1=q.length:=by simp
   rw[e,K5,List.map_append,List.take_left' (by simp)];have:((q++[x]).getD q.length (0,[])).2=x.2:=by simp[oC]
   rw[this];have:kS [x]=x.2.length+3:=by simp[kS]
   omega
theorem aej (w:aG) (ks:List (Int×List Tx)) (h:2<=ks.length):(dh w ((ks.map (·.2)).take (ks.length-2))).length+(ks.getD (ks.length-2) (0,[])).2.length+(ks.getD (ks.length-1) (0,[])).2.length<=kS ks:=by
 obtain⟨q1,y,rfl⟩:=ny (l:=ks) (by omega);obtain⟨q,x,rfl⟩:=ny (l:=q1) (by simp at h; omega);have:=GM w q;have e:(q++[x]++[y]).length-2=q.length:=by simp
 have e1:(q++[x]++[y]).length-1=q.length+1:=by simp
 rw[e,e1,K5,K5,dc,List.map_append,List.take_left' (by simp)];have h1:((q++([x]++[y])).getD q.length (0,[])).2=x.2:=by simp[oC]
 have h2:((q++([x]++[y])).getD (q.length+1) (0,[])).2=y.2:=by simp[oC]
 rw[h1,h2];have:kS [x]=x.2.length+3:=by simp[kS]
 have:kS [y]=y.2.length+3:=by simp[kS]
 omega
theorem QM {k:Int} {t:aG} {n m:Int} {ks:List (Int×List Tx)} (h34:k=3\/k=4->2<=ks.length):(aV k t n m ks).length<=16+kS ks:=by
 have f3:=aek ks;have f1:=aei cH ks;have f0:=GM cH ks;have fq:=afh ks;have b0:=λ l=>xM (ks.getD 0 (0,[])).1 l (ks.getD 0 (0,[])).2;have b1:=λ l=>xM (ks.getD 1 (0,[])).1 l (ks.getD 1 (0,[])).2;have b2:=λ l=>xM (ks.getD 2 (0,[])).1 l (ks.getD 2 (0,[])).2;have bl:=λ l=>xM (ks.getD (ks.length-1) (0,[])).1 l (ks.getD (ks.length-1) (0,[])).2;unfold aV;simp only;refine Gm (λ c=>?_) (λ c2=>Gm (λ c=>?_) (λ c34=>?_))
 . simp only[cO,eX,k0]; omega
 . have f2:=aej cH ks (h34 c);simp only[cO,eX,k0]; omega
 repeat' (refine Gm (λ c=>?_) (λ c=>?_))
 all_goals try simp only[cO,eX,k0]
 all_goals first
  | omega
  | (have:=b0 1; have:=b1 1; have:=b2 1; omega)
  | (have:=b0 4; omega)
  | (have:=b0 8; omega)
  | (have:=b0 (if bP k=5 then 6 else bP k); have:=b1 (bP k+1); omega)
  | (have:=bl 1; omega)
theorem XF {ks:List Tre} (h:ep (ks.map Tre.kind) [⟨.kind 5,0,900⟩,⟨.base,1,1⟩,⟨.term,1,1⟩]=true):2<=ks.length:=by
 refine Nat.le_of_not_lt λ aN=>?_;obtain⟨ps,a,b,rfl,_⟩:=zb (by omega) h;simp at aN; omega
theorem ab6 {k:Int} {x:aG} {n m a:Int} {ks:List Tre} (ho:(Tre.mk k x n m a ks).ok=true):(Tre.mk k x n m a ks).pr.length<=16+(ks.map λ t=>t.pr.length+3).sum:=by
 obtain⟨f,hf,g1,g2,g3⟩:=Tre.ru ho;rw[Tre.cG];have h:=QM (k:=k) (t:=x) (n:=n) (m:=m) (ks:=ks.map λ t=>(t.kind,t.pr)) (λ h=>by
  have ly:f=⟨true,false,false,[⟨.kind 5,0,900⟩,⟨.base,1,1⟩,⟨.term,1,1⟩]⟩:=by rcases h with rfl|rfl<;>simpa [bG] using hf.symm
  subst ly;rw[List.length_map];exact XF g2)
 have e:kS (ks.map λ t=>(t.kind,t.pr))=(ks.map λ t=>t.pr.length+3).sum:=by
  unfold kS; rw[List.map_map]; rfl
 rw[e]at h;exact h
theorem ab7:∀ (N:Nat) (ts:List Tre),(Tre.bu ts).length<=N->(∀ t∈ts,t.ok=true)->(ts.map λ t=>t.pr.length+3).sum<=19*(Tre.bu ts).length:=by
 intro N
 induction N with
 | zero =>
   intro ts hN ho;cases ts with
   | nil=>simp
   | cons t ts=>have:=t.dJ; simp only[Tre.cM,cO]at hN; omega
 | succ N ih =>
   intro ts hN ho;cases ts with
   | nil=>simp
   | cons t ts =>
     have ht:=ho t (by simp);have CQ:=nI t;simp only[Tre.cM,cO]at hN;have i1:=ih t.kids (by omega) λ c hc=>(Gp ht c hc).2;have i2:=ih ts (by omega) λ c hc=>ho c (by simp[hc]);have hn:t.pr.length<=16+(t.kids.map λ t=>t.pr.length+3).sum:=by
      cases t with
      | mk k x n m a ks=>exact ab6 ht
     rw[Tre.cM,cO,dH,List.sum_cons];omega
theorem ae7 {t:Tre} (ho:t.ok=true):t.pr.length<=19*t.flat.length:=by
 have:=ab7 _ [t] (bX _) (by simpa using ho);simp at this;omega
end Go.Rip
namespace Go.Rip
open Go.Proofs Go.RowKit
section
variable {v:AV} {L:List Nd} {U:St} {R:cV->St->Prop} {s:Tre} {n:Nat}
theorem PS.fz {b:Nat} {ar ad:St} {bB:List Tx} (h:PS b v ar bB ad) (hb:NK ar b):Fz ar ad:=λ c x hx ht=>h.fr c x (hb.ne hx ht) hx ht
theorem acg {v:AV} {l:List Nd} (h:Sl v l):v.dw=true/\av v=[v]:=by
 rcases h.s with ⟨_,_,rfl⟩|⟨c,rfl⟩<;>exact⟨rfl,rfl⟩
theorem Fz.Fx {c:Nat} {ar U:St} {x:Live} (h:Fz ar U) (n:NK ar c):Fz ar (U.set c x):=h.jG n λ d hd=>by rw[dW,if_neg hd]
theorem Mg (hv:Sl v L) (hL:L.length<=1000) (hz:∀ (i:Nat) (y:Nd),L[i]?=some y->y.size<=100000) (hs:gT L n s) (h9:s.flat.length<=900) (ho:s.ok=true) (h1:s.kind≠1)
 (h:∀ ad,Fz U ad->R (.ret (.aK [.str (fA s.pr).1,.int .i64 (fA s.pr).2])) ad):ae K 64 [.agg [v],.int .i64 (n:Nat)] U R:=by
 obtain⟨x,hx,vI,ZX,_⟩:=hs.sn;have hle:=hs.le;have nj:=ae7 ho;have x8:=Ln hv hL hz _ s n (bX _) hs h9 ho h1;refine LX ?_;unfold QS;rw[gd rfl];intro b2 gz;have m2:(U.new b2 (.box (av (.agg [v])))).box b2=some [v]:=aD;have e2:=bg gz (x:=.box (av (.agg [v])));generalize U.new b2 _=ar at *;rw[cm];intro b4 gk;have m4:(ar.new b4 (.box [AV.str []])).box b4=some [.str []]:=aD;have Ai:=gk.bO m2;have f4:=e2.fresh gk.1;have e4:=e2.new gk (x:=.box [AV.str []]);have m2:=(bg gk (x:=.box [AV.str []])).aY m2;generalize ar.new b4 (.box [AV.str []])=aS at *;rw[cm];intro b5 lx;have m5:(aS.new b5 (.box [AV.int .i64 0])).box b5=some [.int .i64 0]:=aD;have n25:=lx.bO m2;have C6:=lx.bO m4;have f5:=e4.fresh lx.1;have e5:=e4.new lx (x:=.box [AV.int .i64 0]);have m2:=(bg lx (x:=.box [AV.int .i64 0])).aY m2;have m4:=(bg lx (x:=.box [AV.int .i64 0])).aY m4;generalize aS.new b5 (.box [AV.int .i64 0])=bf at *;refine gR (gR (ej m2 rfl (Y9 (hv.kg _) hx (show (dA x)[0]?=some (.int .u8 x.kind) from rfl) ?_)));rw[vI,c8,al,decide_eq_false h1];simp only[fx];refine dz ?_;rw[zA m2];refine⟨by simp,oz DL ?_⟩;rw[ae5];refine ad1 [v,.ag,opsV] ?_ ?_
 . obtain⟨l1,l2⟩:=acg hv;simp[uB,opsV,ay]
 rw[gd rfl];intro Rw Km;have m22:(bf.new Rw (.box (av (.agg [v,.ag,opsV])))).box Rw=some [v,.ag,opsV]:=aD;have n2:=Km.bO m2;have en:=bg Km (x:=.box (av (.agg [v,.ag,opsV])));have aiF:NK bf Rw:=.of Km.1;have hP:PS Rw v bf [] (bf.new Rw (.box (av (.agg [v,.ag,opsV])))):=⟨⟨.ag,m22,iV.nil (yQ _)⟩,.nS en⟩;have akH:=Km.bO m4;have akI:=Km.bO m5;refine⟨λ b hb=>?_,?_⟩
 . simp only[eE,gx,cK,List.not_mem_nil,or_false]at hb;subst hb;rw[nJ,if_neg n2]
 refine x8 _ _ _ _ _ hP (by unfold NT; simp; omega) λ bR h3=>?_;rw[bE];rw[eH]at h3;have f3:=h3.fz aiF;obtain⟨⟨vl,jr,hg⟩,_⟩:=h3;simp only[bW,al];refine gR (ej jr rfl ?_);refine YN hg.sl (Fi _ s (bX _) ho) (by omega) λ cP f4'=>?_;simp only[bE,bp,List.drop,bC];have f34:=f3.trans f4';have m4:=f34.aY m4;have m5:=f34.aY m5;rw[cI m4];refine⟨⟨rfl,rfl,by simp⟩,?_⟩;rw[cI (show (cP.set b4 _).box b5=some [.int .i64 0] by rw[aO C6.symm]; exact m5)];refine⟨⟨rfl,rfl,by simp⟩,?_⟩;rw[zD (show ((cP.set b4 (.box (ay [.str []] 0 (av (.str (fA s.pr).1))))).set b5 (.box (ay [.int .i64 0] 0 (av (.int .i64 (fA s.pr).2))))).box b4=some [.str (fA s.pr).1] by rw[aO C6,aT]; rfl) rfl];rw[zD aT rfl];refine aq.mk (h _ ?_);have hfz:Fz U cP:=(Fz.nS e5).trans f34;exact (hfz.Fx (.of f4)).Fx (.of f5)
theorem sS {t:Tre} {ts:List Tre} {acc:aG}:gN (t::ts) acc=if (fA t.pr).2≠0 then ([],(fA t.pr).2) else gN ts (acc++(fA t.pr).1++[10]):=rfl
theorem YM (hv:Sl v L) (hL:L.length<=1000) (hz:∀ (i:Nat) (y:Nd),L[i]?=some y->y.size<=100000) (hs:gT L n s) (h9:s.flat.length<=900) (ho:s.ok=true) (h1:s.kind=1)
 (h:∀ ad,Fz U ad->R (.ret (.aK [.str (gN s.kids []).1,.int .i64 (gN s.kids []).2])) ad):ae K 64 [.agg [v],.int .i64 (n:Nat)] U R:=by
 obtain⟨x,hx,vI,ZX,_⟩:=hs.sn;have hle:=hs.le;have CQ:=nI s;have iW:=Gp ho;refine LX ?_;unfold QS;rw[gd rfl];intro b2 gz;have m2:(U.new b2 (.box (av (.agg [v])))).box b2=some [v]:=aD;have e2:=bg gz (x:=.box (av (.agg [v])));generalize U.new b2 _=ar at *;rw[cm];intro b4 gk;have m4:(ar.new b4 (.box [AV.str []])).box b4=some [.str []]:=aD;have Ai:=gk.bO m2;have f4:=e2.fresh gk.1;have e4:=e2.new gk (x:=.box [AV.str []]);have m2:=(bg gk (x:=.box [AV.str []])).aY m2;generalize ar.new b4 (.box [AV.str []])=aS at *;rw[cm];intro b5 lx;have m5:(aS.new b5 (.box [AV.int .i64 0])).box b5=some [.int .i64 0]:=aD;have n25:=lx.bO m2;have C6:=lx.bO m4;have f5:=e4.fresh lx.1;have e5:=e4.new lx (x:=.box [AV.int .i64 0]);have m2:=(bg lx (x:=.box [AV.int .i64 0])).aY m2;have m4:=(bg lx (x:=.box [AV.int .i64 0])).aY m4;generalize aS.new b5 (.box [AV.int .i64 0])=bf at *;refine gR (gR (ej m2 rfl (Y9 (hv.kg _) hx (show (dA x)[0]?=some (.int .u8 x.kind) from rfl) ?_)));rw[vI,c8,al,decide_eq_true h1];simp only[dm];refine cY ?_;rw[lR];intro b7 nR;rw[show NV.at b7 .box=AV.box b7 0 from rfl];have hB:Bu U (bf.new b7 (.uS 158 [.a8,.ag])) b7 []:=⟨.inl ⟨rfl,.inl (by rw[nJ,if_pos rfl])⟩,.of (e5.fresh nR.1),.nS (e5.new nR)⟩;have n27:=nR.bO m2;have Z9:=nR.bO m4;have n57:=nR.bO m5;have e7:=bg nR (x:=.uS 158 [.a8,.ag]);have m2:=e7.aY m2;have m4:=e7.aY m4;have m5:=e7.aY m5;generalize bf.new b7 _=bR at *;refine lX m2 ?_;refine zc (n:=n) hv.s hx (bI (by omega) (by omega)) λ bn be bt cP d1 d2 d3 f1 f2 f3 q1 q2 q3 e3=>?_;rw[bE];have n2n:b2≠bn:=λ e=>ct m2 (e▸f1);have n4n:b4≠bn:=λ e=>ct m4 (e▸f1);have n4e:b4≠be:=λ e=>ct m4 (e▸f2);have n4t:b4≠bt:=λ e=>ct m4 (e▸f3);have n5n:b5≠bn:=λ e=>ct m5 (e▸f1);have n5e:b5≠be:=λ e=>ct m5 (e▸f2);have n5t:b5≠bt:=λ e=>ct m5 (e▸f3);have b7l:bR.live b7≠none:=by
  rcases hB.at_ with ⟨_,h'|h'⟩|⟨_,τ,h',_⟩
  . rw[h']; simp
  . exact ct h'
  . exact ct h'
 have n7n:b7≠bn:=λ e=>b7l (e▸f1);have n7e:b7≠be:=λ e=>b7l (e▸f2);have n7t:b7≠bt:=λ e=>b7l (e▸f3);have m2:=e3.aY m2;have m4:=e3.aY m4;have m5:=e3.aY m5;have hB:=hB.mono (.nS e3);have N1:fO L ((n:Int)+x.size) L.length (n+1)=fK (n+1) s.kids:=by
  rw[ZX]; exact y9 hs
 have ta:s.kids.length<=900:=by have:=Tre.oN s.kids; omega
 have ret:∀ (ad:St) (a:aG) (e:Int),ad.box b4=some [.str a]->ad.box b5=some [.int .i64 e]->Fz U ad->a=(gN s.kids []).1->e=(gN s.kids []).2->bD (some (false,1)) (.box b4 0) ad λ r0=>bD (some (false,1)) (.box b5 0) ad λ r1=>aq R (AV.aK [r0,r1]) ad:=by
  intro ad a e k4 k5 hf ha he;rw[zD k4 rfl,zD k5 rfl];subst ha he;exact aq.mk (h _ hf)
 have put:∀ (ad:St) (a0 a:aG) (e0 e:Int) (Q:St->Prop),ad.box b4=some [.str a0]->ad.box b5=some [.int .i64 e0]->Fz U ad ->
  (∀ ju,ju.box b4=some [.str a]->ju.box b5=some [.int .i64 e]->Fz U ju->(∀ c,c≠b4->c≠b5->ju.live c=ad.live c)->Q ju)->∀ (P1 P2:AV->St->Prop),(aI (some (false,1)) (.box b4 0) (.str a) ad).wp K ad (λ _ U=>(aI (some (false,1)) (.box b5 0) (.int .i64 e) U).wp K U (λ _ U=>Q U) P2) P1:=by
  intro ad a0 a e0 e Q k4 k5 hf hQ P1 P2;rw[cI k4];refine⟨⟨rfl,rfl,by simp⟩,?_⟩;rw[cI (show (ad.set b4 (.box (ay [.str a0] 0 (av (.str a))))).box b5=some [.int .i64 e0] by rw[aO C6.symm]; exact k5)];refine⟨⟨rfl,rfl,by simp⟩,hQ _ ?_ ?_ ?_ ?_⟩
  . rw[aO C6,aT]; rfl
  . rw[aT]; rfl
  . exact (hf.Fx (.of f4)).Fx (.of f5)
  . intro c c4 c5;rw[dW,if_neg c5,dW,if_neg c4]
 have fin:∀ (ad:St) (acc:aG),ad.box b4=some [.str []]->ad.box b5=some [.int .i64 0]->Bu U ad b7 acc->gN s.kids []=gN [] acc ->
  ae K 126 [.box b7 0] ad (ah (λ v49 U =>
  (aw .gtr (BT.mk false false false none false) true v49 (AV.int .i64 2500)).wp K U (λ ji U =>
  ax ji (
   (aI (some (false,1)) (.box b4 0) (AV.str w_) U).wp K U (λ _ U =>
   (aI (some (false,1)) (.box b5 0) (AV.int .i64 5) U).wp K U (λ _ U =>
   bD (some (false,1)) (.box b4 0) U λ o8 =>
   bD (some (false,1)) (.box b5 0) U λ LI =>
   aq R (AV.aK [o8,LI]) U) (aa R)) (aa R)) (
   ae K 127 [.box b7 0] U (ah (λ v51 U =>
   (aI (some (false,1)) (.box b4 0) v51 U).wp K U (λ _ U =>
   (aI (some (false,1)) (.box b5 0) (AV.int .i64 0) U).wp K U (λ _ U =>
   bD (some (false,1)) (.box b4 0) U λ rM =>
   bD (some (false,1)) (.box b5 0) U λ LJ =>
   aq R (AV.aK [rM,LJ]) U) (aa R)) (aa R)) (aa R)))) (aa R)) (aa R)):=by
  intro ad acc k4 k5 vE e;refine RI vE ?_;rw[eM,al];refine ic (λ uL=>?_) λ uL=>?_
  . have hE:gN s.kids []=([],5):=by rw[e,gN,if_pos (by omega)]
    exact put ad [] [] 0 5 _ k4 k5 vE.fz (λ ju j4 j5 hf _=>ret ju [] 5 j4 j5 hf (by rw[hE]) (by rw[hE])) _ _
  . have hE:gN s.kids []=(acc,0):=by rw[e,gN,if_neg (by omega)]
    refine RJ vE λ du AI hf5=>?_;exact put du [] acc 0 0 _ (AI.aY Z9 k4) (AI.aY n57 k5) hf5 (λ ju j4 j5 hf _=>ret ju acc 0 j4 j5 hf (by rw[hE]) (by rw[hE])) _ _
 have hNL:∀ {ad:St},Fz U ad->∀ {o:Nat},ad.live o=none->NK U o:=λ hf o ho=>hf.nk ho;refine Db (n:=n) (en:=(n:Int)+x.size)
  (λ o ks ad=>(ad.box bn=some [.int .i64 (n:Nat)]/\ad.box be=some [.int .i64 ((n:Int)+x.size)]/\ad.box bt=some [v])/\(ad.box b2=some [v]/\ad.box b4=some [.str []]/\ad.box b5=some [.int .i64 0])/\NK U o/\∃ acc,Bu U ad b7 acc/\acc.length<=2501*ks.length/\gN s.kids []=gN (s.kids.drop ks.length) acc)
  (λ o ad=>NK U o/\Fz U ad/\∃ e,ad.box b4=some [.str []]/\ad.box b5=some [.int .i64 e]/\gN s.kids []=([],e)) hv.s (by omega) (by omega) (by omega)
  (λ o ks ad hI=>hI.1) (λ o ks ad L0 L' hI ho=>?_) (λ o ad L0 L' hJ ho=>?_) (λ ks kg y ad o L1 q hI hy aN ahi hnk ta tB ke SG ZQ=>?_) (λ ks ad o L0 iW hI Hn=>?_) (λ ad o L0 hJ Hn=>?_) (λ o L0 ho=>?_)
 . obtain⟨⟨i1,i2,i3⟩,⟨j2,j4,j5⟩,hn,acc,vE,hl,he⟩:=hI;have kb:∀ {c y},ad.box c=some y->(ad.set o (.loop L')).box c=some y:=λ h=>by rw[aO (bY h ho)]; exact h
   exact⟨⟨kb i1,kb i2,kb i3⟩,⟨kb j2,kb j4,kb j5⟩,hn,acc,vE.jG hn ho λ c hc=>by rw[dW,if_neg hc],hl,he⟩
 . obtain⟨hn,hf,e,j4,j5,he⟩:=hJ;have kb:∀ {c y},ad.box c=some y->(ad.set o (.loop L')).box c=some y:=λ h=>by rw[aO (bY h ho)]; exact h
   exact⟨hn,hf.Fx hn,e,kb j4,kb j5,he⟩
 . obtain⟨⟨i1,i2,i3⟩,⟨j2,j4,j5⟩,hn,acc,vE,hl,he⟩:=hI;rw[N1]at tB;obtain⟨r,hr⟩:=tB;have AY:(fK (n+1) s.kids)[ks.length]?=some kg:=by rw[hr]; simp
   obtain⟨u,hu,ZT⟩:=zJ hs.kids AY;have hum:=gw hu;obtain⟨uk1,uok⟩:=iW u hum;have hut:=Tre.um hum;have PX:s.kids.drop ks.length=u::s.kids.drop (ks.length+1):=by
    rw[gM (dp.1 hu).1,(dp.1 hu).2]
   have akC:ks.length<s.kids.length:=(dp.1 hu).1;rw[PX,sS]at he;refine lX j2 (Mg hv hL hz ZT (by omega) uok uk1 λ du AI=>?_);have i1:=AI.aY i1;have i2:=AI.aY i2;have i3:=AI.aY i3;have j2:=AI.aY j2;have j4:=AI.aY j4;have j5:=AI.aY j5;have vE:=vE.mono AI;have ke:=AI.loop ke;simp only[bE,bp,List.drop,bC];refine Mw ?_
   by_cases wD:(fA u.pr).2=0
   . simp only[wD,dG,dm];refine cY ?_;rw[if_neg (by simp[wD])]at he;obtain⟨t1,t2,t3⟩:=ID wD;have hlen:((fA u.pr).1).length<=2500:=by rw[t1]; exact t3
     rw[ah8];refine⟨by simp[sW]; omega,?_⟩;refine Hb (by simp[sW]) vE (by simp[sW]; omega) λ yy mh hB6 f6=>?_;refine SG mh ⟨⟨f6.aY n7n.symm i1,f6.aY n7e.symm i2,f6.aY n7t.symm i3⟩,⟨f6.aY n27 j2,f6.aY Z9 j4,f6.aY n57 j5⟩,hn,_,hB6,?_,?_⟩ (hz _ _ hy) (f6.loop ?_ ke)
     . simp[sW]; omega
     . rw[he,cO,List.length_singleton];congr 1;simp[sW]
     . rintro rfl;rcases vE.at_ with ⟨_,h'|h'⟩|⟨_,τ,h',_⟩
       . unfold St.loop at ke; rw[h']at ke; cases ke
       . exact bY h' ke rfl
       . exact bY h' ke rfl
   . simp only[wD,eS,fx];refine dz ?_;rw[if_pos wD]at he;refine put du [] [] 0 _ _ j4 j5 vE.fz (λ ju k4 k5 hf pQ=>?_) _ _;refine ZQ ju ⟨hn,hf,_,k4,k5,he⟩ ?_;rw[gU (pQ o (bY j4 ke).symm (bY j5 ke).symm)]; exact ke
 . obtain⟨⟨i1,i2,i3⟩,⟨j2,j4,j5⟩,hn,acc,vE,hl,he⟩:=hI;have kb:∀ {c y},ad.box c=some y->(ad.del o).box c=some y:=λ h=>by rw[jl (bY h Hn)]; exact h
   rw[N1]at iW;have hlen:ks.length=s.kids.length:=by rw[iW,ry]
   rw[hlen,List.drop_length]at he;exact fin _ acc (kb j4) (kb j5) (vE.jG hn Hn λ c hc=>by rw[jX,if_neg hc]) he
 . obtain⟨hn,hf,e,j4,j5,he⟩:=hJ;have kb:∀ {c y},ad.box c=some y->(ad.del o).box c=some y:=λ h=>by rw[jl (bY h Hn)]; exact h
   exact ret _ [] e (kb j4) (kb j5) (hf.jG hn λ c hc=>by rw[jX,if_neg hc]) (by rw[he]) (by rw[he])
 . have e:=bg ho (x:=.loop L0);exact⟨⟨e.aY q1,e.aY q2,e.aY q3⟩,⟨e.aY m2,e.aY m4,e.aY m5⟩,hB.fz.nk ho.1,[],hB.mono (.nS e),by simp,by simp⟩
end
end Go.Rip
namespace Go.Rip
open Go.Proofs Go.RowKit
section
variable {U:St} {R:cV->St->Prop} {v:AV} {l:List Nd} {p:Int} {g:FuncId} {fs cs:List AV}
theorem afA (hv:Sl v l) (hl:l.length<=10000) (jV:∀ x∈l,x.text.length<=3000) (hg:fC K.P g=true)
 (h0:lG l p≠0->∀ ad,cX U ad->R (.ret (.aK [.str [],.int .i64 (lG l p)])) ad)
 (h1:lG l p=0->∀ ad,cX U ad->ae K g (fs++[.agg [v]]++cs) ad (Zd R (.str []))):ae K 62 [.agg [v],.int .i64 p,.func (.func g) fs cs] U R:=by
 refine Yp ?_;unfold aau;rw[gd rfl];intro b1 iN;have m1:(U.new b1 (.box (av (.agg [v])))).box b1=some [v]:=aD;have e1:=bg iN (x:=.box (av (.agg [v])));generalize U.new b1 _=aS at *;refine lX m1 ((El hv.s hv.c hl jV).go ?_);rw[c8,al]
 by_cases hc:fR l=0
 rotate_left
 . simp only[hc,eS,fx];refine dz (aq.mk ?_);rw[<- ti (p:=p) hc];exact h0 (by rw[ti hc]; exact hc) _ e1
 simp only[hc,dG,dm];refine cY (gR (ej m1 rfl ?_));rw[hv.s.len,al,l9,iv,wp_cond,al];refine⟨bI (by omega) (by omega),My ?_⟩;simp only[eT,al]
 by_cases hp:0<=p/\p<=(l.length:Int)-1
 rotate_left
 . simp only[hp,eS,fx];refine dz (aq.mk ?_);have:=JJ hc hp;rw[<- this];exact h0 (by rw[this]; decide) _ e1
 simp only[hp,and_self,dG,dm];refine cY (lX m1 (pK [v] rfl ?_));rw[Ws hg];exact abj (h1 (BZ hc hp) _ e1)
end
noncomputable def lC (l:List Nd) (p:Int):aG×Int:=if lG l p≠0 then ([],lG l p) else match D3 ((l.drop p.toNat).take (gV l p.toNat)) with|some s=>nX s|none=>([],0)
theorem IC {l:List Nd} {p:Int} (h:lG l p≠0):lC l p=([],lG l p):=by unfold lC; rw[if_pos h]
theorem BN {t s:Tre} {n:Nat} (h:lG t.flat n=0) (hs:gT t.flat n s):lC t.flat n=nX s:=by
 have fH:=QU hs;unfold lC;rw[if_neg (by simp[h]),fW,fH];obtain⟨r,hr⟩:=hs;rw[hr,List.take_left,IH]
theorem Q0 {s:Tre} (h:(nX s).2≠0):(nX s).1=[]:=by
 have e1:∀ l:List Tx,(fA l).2≠0->(fA l).1=[]:=λ l h=>by
  unfold fA at h ⊢
  repeat' split
  all_goals first
   | rfl
   | (exfalso; simp_all)
 have e2:∀ (ts:List Tre) (acc:aG),(gN ts acc).2≠0->(gN ts acc).1=[]:=by
  intro ts
  induction ts with
  | nil=>intro acc h; unfold gN at h ⊢; split<;>simp_all
  | cons t ts ih =>
    intro acc h;rw[sS]at h ⊢;split
    . rfl
    . rename_i h';rw[if_neg h']at h;exact ih _ h
 unfold nX at h ⊢;split
 . rename_i h'; rw[if_pos h']at h; exact e1 _ h
 . rename_i h'; rw[if_neg h']at h; exact e2 _ _ h
theorem Wf {v:AV} {l:List Nd} (hv:Sl v l) (hl:l.length<=1000) (jV:∀ x∈l,x.text.length<=3000) (p:Int):Pure K 28 [.agg [v],.int .i64 p] (.aK [.str (lC l p).1,.int .i64 (lC l p).2]):=by
 refine Pure.of (by simp[cD,hv.cl,show closed (.int .i64 p)=true from rfl]) rfl (λ U=>rfl) λ R hR=>?_;refine Yf ?_;unfold aak;rw[gd rfl];intro b1 iN;have m1:((bU ⟨.e,0⟩).new b1 (.box (av (.agg [v])))).box b1=some [v]:=aD;generalize (bU _).new b1 _=ar at *;rw[gd rfl];intro b2 gz;have m2:(ar.new b2 (.box (av (.int .i64 p)))).box b2=some [.int .i64 p]:=aD;have m1:=(bg gz (x:=.box (av (.int .i64 p)))).aY m1;generalize ar.new b2 (.box (av (.int .i64 p)))=aS at *;refine lX m1 (ej m2 rfl ?_);have fin:∀ (x:aG) (e:Int) (ad:St),x=(lC l p).1->e=(lC l p).2->ah (λ v9 U=>(aU v9 0).wp K U (λ v10 U=>(aU v9 1).wp K U (λ v11 U=>aq R (AV.aK [v10,v11]) U) (aa R)) (aa R)) (aa R) (.ret (.aK [.str x,.int .i64 e])) ad:=by
  intro x e ad hx he;subst hx he;simp only[bE,bp,List.drop,bC];exact aq.mk (hR _)
 refine afA (fs:=[]) (cs:=[.box b2 0]) hv (by omega) jV (by kernel_rfl) (λ ha bf e2=>?_) (λ ha bf e2=>?_)
 . exact fin _ _ _ (by rw[IC ha]) (by rw[IC ha])
 have m2:=e2.aY m2;obtain⟨n,t,s,rfl,rfl,h1,h2,h3,hs⟩:=G3 ha;have hS:=BN ha hs;have hle:=hs.le;have Kw:t.flat.length<=900:=by
  refine Nat.le_of_not_lt λ h'=>?_;have:lG t.flat n≠0:=by
   have hc:fR t.flat=5:=by unfold fR; rw[if_pos h']
   rw[ti (by rw[hc]; decide),hc]; decide
  exact this ha
 have cS:s.ok=true:=by
  obtain⟨s',fp,KM⟩:=yu _ [t] 0 (bX _) (show sk t.flat 0 [t] from ⟨[],by simp⟩) n (by omega) (by simpa using h3);rw[hs.inj fp];exact KM (by simp[h2])
 have hz:∀ (i:Nat) (y:Nd),t.flat[i]?=some y->y.size<=100000:=λ i y hy=>by have:=PJ.2.2 i y hy; omega
 have key:∀ Rt:cV->St->Prop,(∀ ad,Rt (.ret (.aK [.str (nX s).1,.int .i64 (nX s).2])) ad)->ae K 63 [.agg [v],.box b2 0] bf Rt:=by
  intro Rt Zr;refine Yq ?_;unfold aav;rw[gd rfl];intro b3 lu;have m3:(bf.new b3 (.box (av (.agg [v])))).box b3=some [v]:=aD;have m2:=(bg lu (x:=.box (av (.agg [v])))).aY m2;generalize bf.new b3 _=bR at *;refine lX m3 (ej m2 rfl ?_)
  by_cases hk:s.kind=1
  . have:nX s=gN s.kids []:=by unfold nX; rw[if_neg (by simp[hk])]
    rw[this]at Zr;refine YM hv hl hz hs (by omega) cS hk λ ad _=>?_;simp only[bE,bp,List.drop,bC];exact aq.mk (Zr _)
  . have:nX s=fA s.pr:=by unfold nX; rw[if_pos hk]
    rw[this]at Zr;refine Mg hv hl hz hs (by omega) cS hk λ ad _=>?_;simp only[bE,bp,List.drop,bC];exact aq.mk (Zr _)
 refine key _ λ ad=>⟨_,_,rfl,λ ca=>fin _ _ _ ?_ (by rw[hS]),λ he=>fin _ _ _ (by rw[hS]) (by rw[hS,he])⟩;rw[hS,Q0 ca]
theorem QN {v:AV} {l:List Nd} (hv:Sl v l) (hl:l.length<=1000) (jV:∀ x∈l,x.text.length<=3000):Pure K 25 [.agg [v]] (.aK [.str (lC l 0).1,.int .i64 (lC l 0).2]):=by
 refine Pure.of (by simp[cD,hv.cl]) rfl (λ U=>rfl) λ R hR=>?_;refine Yd ?_;unfold aai;rw[gd rfl];intro b1 iN;have m1:((bU ⟨.e,0⟩).new b1 (.box (av (.agg [v])))).box b1=some [v]:=aD;generalize (bU _).new b1 _=ar at *;refine lX m1 ((Wf hv hl jV 0).go ?_);simp only[bp,List.drop,bC];exact aq.mk (hR _)
end Go.Rip
namespace Go.Rip
theorem B1 (l:List Nd):eU l=bz l:=rfl
theorem p4 {l:List Nd} (h:fR l=0):∃ t:Tre,l=t.flat/\t.kind=1/\t.ok=true/\t.flat.length<=900/\t.deep<=60/\t.kids.length<=24:=by
 have h9:¬ 900<l.length:=λ h'=>by unfold fR at h; rw[if_pos h']at h; cases h
 have:∃ t:Tre,l=t.flat/\t.kind=1/\t.ok=true:=Classical.not_not.1 λ h'=>by rw[uW h9 h']at h; cases h
 obtain⟨t,rfl,h1,h2⟩:=this;refine⟨t,rfl,h1,h2,by omega,?_⟩;rw[AB t h9]at h;unfold Dt at h;rw[if_neg (by simp[h1,h2])]at h;refine⟨Nat.le_of_not_lt λ h'=>?_,Nat.le_of_not_lt λ h'=>?_⟩
 . rw[if_pos (.inl h')]at h; cases h
 . rw[if_pos (.inr h')]at h; cases h
theorem qd {t:Tre} (h1:t.kind=1) (h2:t.ok=true) (h9:t.flat.length<=900):(∀ c∈t.kids,c.ok=true/\jB c.kind=true/\c.flat.length<=900)/\∃ a,t=.mk 1 [] 0 0 a t.kids:=by
 cases t with
 | mk k x n m a ks =>
   obtain rfl:k=1:=h1;obtain⟨f,hf,g1,g2,g3⟩:=Tre.ru h2;obtain rfl:(⟨false,false,false,[⟨.item,0,900⟩]⟩:gS)=f:=by simpa [bG] using hf
   obtain⟨f1,_,_,_,f5,f6⟩:=iw g1;obtain rfl:=f1 rfl;obtain rfl:=f5 rfl;obtain rfl:=f6 rfl;obtain⟨_,hc⟩:=Cg g2;have hlen:(Tre.bu ks).length+1=(Tre.mk 1 [] 0 0 a ks).flat.length:=by rw[Tre.dZ]; simp
   exact⟨λ c oP=>⟨g3 c oP,hc c oP,by have:=Tre.um (ks:=ks) oP; omega⟩,a,rfl⟩
theorem Pk {l:List Nd} {s:aG} (hc:fR l=0) (hs:lC l 0=(s,0)):s.length<=2500/\((∃ u,kZ s=(u,0,0)/\eU u=eU l/\fR u=0/\u.length=l.length)\/∃ q:Nat,kZ s=([],(q:Int),5)/\ix s=.bad q 5):=by
 obtain⟨t,rfl,h1,h2,h9,hd,h24⟩:=p4 hc;have ha:lG t.flat (0:Nat)=0:=BZ hc (by have:=t.dJ; omega);have hS:=BN (n:=0) ha (gT.whole t);have hS:lC t.flat 0=nX t:=hS;obtain⟨hk,a,hta⟩:=qd h1 h2 h9;have hT:nX t=gN t.kids []:=by unfold nX; rw[if_neg (by simp[h1])]
 rw[hS,hT]at hs;have cS:=Mh t.kids [] (by rw[hs]);rw[hs]at cS;obtain⟨e,hl⟩:=cS;simp only[eH]at e hl;subst e;refine⟨hl,?_⟩;obtain⟨k1,k2⟩:=Ox (λ c oP=>(hk c oP).1) hl
 by_cases Xh:(fN t.kids).length<=900
 . left;obtain⟨L,e1,e2⟩:=k1 Xh;have hLl:(fN t.kids).length=L.length:=by rw[<- e1]; simp
   obtain⟨ns,b1,p1⟩:=KZ (L:=L) (E:=(fM t.kids).length) t.kids [] 0 (L.length+1) hk ⟨[],by simp[e1]⟩ (by omega) (by omega);simp only[eH]at p1;have hbz:bz (node 1 [] 0 0 0 ns)=bz t.flat:=by
    rw[hta,Tre.oM];exact fl b1
   have hlen:=Ek hbz;obtain⟨yV,Ho⟩:=vn e2;obtain⟨m,g1,g2,g3⟩:=DD yV Ho _ [] 0 0 p1 s8.nil (by omega) (by omega);have uN:jU (node 1 [] 0 0 0 ns)=false:=by
    rw[Sc hbz,xl];simp; omega
   have hw:¬ (900<(node 1 [] 0 0 0 ns).length\/jU (node 1 [] 0 0 0 ns)=true):=by
    rw[uN]; simp only[bZ,or_false]; omega
   have Hr:=IP g1 (by omega);rw[if_neg hw]at Hr;refine⟨node 1 [] 0 0 0 ns,?_,hbz,Hr,hlen⟩;unfold kZ;rw[e2];simp only[p1];unfold lQ;rw[if_neg hw]
 . right;obtain⟨q,e2⟩:=k2 (by omega);exact⟨q,by unfold kZ; rw[e2],e2⟩
end Go.Rip
namespace Go.Rip
open Go.Proofs Go.RowKit
theorem Bb {v:AV} {l:List Nd} (hv:Sl v l) (hl:l.length<=10000) (jV:∀ x∈l,x.text.length<=3000):Pure K 36 [.agg [v]] (.aK [.agg [fg (lq l).1],.bool (decide ((lq l).2=0))]):=by
 have cl:=Hf hv (by omega);have cv:=Ck l;refine Pure.OF (by simp[cD,hv.cl]) (by simp[closed,cD,qR]) λ R hR=>?_;refine Yi ?_;unfold aan;rw[gd rfl];intro b1 iN;have m1:((bU ⟨.e,0⟩).new b1 (.box (av (.agg [v])))).box b1=some [v]:=aD;generalize (bU _).new b1 _=ar at *;rw[cm];intro b2 gz;have m2:(ar.new b2 (.box [AV.ag])).box b2=some [.ag]:=aD;have m1:=(bg gz (x:=.box [AV.ag])).aY m1;generalize ar.new b2 (.box [AV.ag])=aS at *;refine lX m1 (cl.go ((Rz cv hl jV).go ?_));simp only[bp,List.drop,bC];rw[cm];intro b4 gk;have m4:(aS.new b4 (.box [AV.ag])).box b4=some [.ag]:=aD;have Ai:=gk.bO m2;have m2:=(bg gk (x:=.box [AV.ag])).aY m2;generalize aS.new b4 (.box [AV.ag])=bf at *;rw[cI m4];refine⟨⟨rfl,rfl,by simp⟩,?_⟩;have m2:(bf.set b4 (.box (ay [AV.ag] 0 (av (.agg [fg (lq l).1]))))).box b2=some [.ag]:=by rw[aO Ai]; exact m2
 have m4:(bf.set b4 (.box (ay [AV.ag] 0 (av (.agg [fg (lq l).1]))))).box b4=some [fg (lq l).1]:=by rw[aT]; rfl
 generalize bf.set b4 _=bR at *;refine lX m4 (FO ?_);rw[cI m2];refine⟨⟨rfl,rfl,by simp⟩,?_⟩;rw[pT aT];refine⟨by simp[ay],aq.mk (hR _ _ ?_)⟩;have e:((ay [AV.ag] 0 (av (.agg [fg (lq l).1]))).drop 0).take 1=[fg (lq l).1]:=rfl;rw[e];show AV.aK [.agg [resolve 3 _ (fg (lq l).1)],_]=_;rw[BD]; rfl
theorem Fs {l:List Nd} (h:fR l=0):∀ x∈l,x.text.length<=12:=by
 obtain⟨t,rfl,_,h2,_⟩:=p4 h;have:=Bn (Tre.bu [t]).length [t] (bX _) (by simp[h2]);simpa using this
end Go.Rip
namespace Go.Rip
open Go.Proofs Go.RowKit
section
variable {gv:AV} {r:aC} {k:AV->Prop} {bt:BT} {b:Bool} {x y:Int} {i:IntKind}
theorem sx (hg:gv=.bool true) (h:az K r k):ao K gv r k:=by rw[hg]; exact tI h
theorem ae9 (h:¬ x<y) (hk:k (.bool false)):az K (aw .lss bt b (.int i x) (.int i y)) k:=by rw[bV,aJ,decide_eq_false h]; exact hk
theorem LC (h:x=y) (hk:k (.bool false)):az K (aw .neq bt b (.int i x) (.int i y)) k:=by rw[c8,aJ,decide_eq_true h]; exact hk
theorem afW {U:St} {K' Kp:AV->St->Prop} (h:x=y) (hk:K' (.bool true) U):(aw .eql bt b (.int i x) (.int i y)).wp K U K' Kp:=by rw[bA,al,decide_eq_true h]; exact hk
theorem Mx {U:St} {K' Kp:AV->St->Prop} {u w:AV} (hk:K' w U):(bN (.bool false) u w).wp K U K' Kp:=hk
theorem xI {U:St} {K' Kp:AV->St->Prop} {u w:AV} (hk:K' u U):(bN (.bool true) u w).wp K U K' Kp:=hk
theorem agW {m:AV} {L l:List AV} {b1 o n:Nat} {U:St} (hg:gv=.bool true) (hb:U.box b1=some L) (hd:L.drop (o+n)=m::l) (h:k m) :
 ao K gv (af (some n) (.box b1 o)) λ p=>ao K gv (ak (some (false,1)) p U) k:=by
 subst hg;simp only[aP,cB];exact jL (eZ hb hd h)
theorem LB {v:AV} {n:Nat} {cs:List AV} (h:eW v n cs) (hk:k (.int .i64 n)):az K (cr (some false) v) k:=by rw[h.len,aJ]; exact hk
end
end Go.Rip
