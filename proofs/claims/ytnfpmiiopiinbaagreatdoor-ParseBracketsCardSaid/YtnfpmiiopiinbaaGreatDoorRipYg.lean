/- Lemmas for the proof: no conditions. -/
import Derived.Test.YtnfpmiiopiinbaaGreatDoorRipZz
import Derived.Test.YtnfpmiiopiinbaaGreatDoorRipYc
import Derived.Test.YtnfpmiiopiinbaaGreatDoorRipH
import Derived.Test.YtnfpmiiopiinbaaGreatDoorRipYf
import Derived.Test.YtnfpmiiopiinbaaGreatDoorRipO
set_option linter.unusedVariables false
set_option linter.unusedSimpArgs false
set_option linter.loopingSimpArgs false
namespace Go.Rip
open Go.Proofs Go.RowKit
theorem ae5:Bq=opsV:=by rfl
def lh (x:Tx):List AV:=[.int .u8 x.1,.str x.2,.int .i64 0]
def pd (l:List Tx):List AV:=l.flatMap lh
theorem Nq (a b:List Tx):pd (a++b)=pd a++pd b:=by simp[pd]
theorem YU (x:Tx):pd [x]=lh x:=by simp[pd]
def Fr (b:Nat) (U ad:St):Prop:=∀ c x,c≠b->U.live c=some x->(∀ t,x=.tok t->t.e≠51)->ad.live c=some x
section
variable {b c:Nat} {U ar aS ad:St} {v:AV} {bB l rest:List Tx}
theorem Fr.refl (b:Nat) (U:St):Fr b U U:=λ _ _ _ h _=>h
theorem Fr.trans (h:Fr b U aS) (k:Fr b aS ad):Fr b U ad:=λ c x n e t=>k c x n (h c x n e t) t
theorem Fr.nS (h:cX U ad):Fr b U ad:=λ c x _ e _=>h c x e
theorem Fr.aY (h:Fr b U ad) (n:c≠b) {y:List AV} (k:U.box c=some y):ad.box c=some y:=by
 cases e:U.live c with
 | none=>simp[St.box,e]at k
 | some x =>
   rw[dS ((h c x n e ?_).trans e.symm)]; exact k;intro t ht;subst ht;simp[St.box,e]at k
structure PS (b:Nat) (v:AV) (ar:St) (bB:List Tx) (U:St):Prop where
 box:∃ vl,U.box b=some [v,vl,opsV]/\iV (bU ⟨.e,0⟩) U vl 51 3 bB.length (pd bB)
 fr:Fr b ar U
def NT:Nat:=1000000
theorem PS.mono (h:PS b v ar bB U) (e:cX U ad):PS b v ar bB ad:=by
 obtain⟨⟨vl,h1,h2⟩,h3⟩:=h;exact⟨⟨vl,e.aY h1,h2.mono e⟩,h3.trans (.nS e)⟩
theorem PS.Fq (h:PS b v ar bB U):PS b v U bB U:=⟨h.box,Fr.refl _ _⟩
theorem PS.app (h:PS b v ar bB U) (k:PS b v U l ad):PS b v ar l ad:=⟨k.box,h.fr.trans k.fr⟩
theorem GF {x:Tx} {y:AV} {K':AV->St->Prop} {Kp:AV->St->Prop} (h:PS b v ar bB U) (hb:bB.length<=NT) (hy:y=.vec 1 .full (lh x)) {vl:AV} (jr:U.box b=some [v,vl,opsV])
 (hk:∀ ad wb,iV (bU ⟨.e,0⟩) ad wb 51 3 (bB.length+1) (pd (bB++[x]))->ad.box b=some [v,vl,opsV]->Fr b U ad->ad.live b=U.live b->K' wb ad):(dB (some (51,3)) false vl y U).wp K U K' Kp:=by
 obtain⟨⟨wb,h1,h2⟩,h3⟩:=h;rw[jr]at h1;obtain rfl:vl=wb:=by simpa using h1
 subst hy;unfold NT at hb;refine FN h2 (m:=1) (l2:=lh x) rfl rfl (by omega) (by omega) λ ad w g k=>?_;have kf:∀ {c z},U.live c=some z->(∀ t,z=.tok t->t.e≠51)->∀ n l,vl≠.vec n (.own c) l:=λ hz ht n l hv=>by
  rcases h2.g with ⟨_,_,h3⟩|⟨τ,r1,r2,_⟩
  . rw[h3]at hv; cases hv
  . rw[r1]at hv; cases hv;unfold St.tok at r2;rw[hz]at r2;split at r2
    . rename_i t e; cases e; cases r2; exact ht _ rfl rfl
    . cases r2
 have hbk:=(oO h2.g k).1 jr;refine hk ad w (by rw[Nq,YU]; exact g) hbk (λ c z _ hz ht=>k c z (kf hz ht) hz) ?_;cases e:U.live b with
 | none=>exact absurd e (ct jr)
 | some z =>
   refine k b z (kf e λ t ht=>?_) e;subst ht;simp[St.box,e]at jr
theorem DO {x:Tx} {vl wb:AV} {K':AV->St->Prop} {Kp:AV->St->Prop} (h:PS b v ar bB U) (hf:Fr b U ad) (jr:ad.box b=some [v,vl,opsV]) (g:iV (bU ⟨.e,0⟩) ad wb 51 3 (bB.length+1) (pd (bB++[x])))
 (hk:∀ bf,PS b v ar (bB++[x]) bf->K' (.aK []) bf):(aI (some (false,1)) (.box b 1) wb ad).wp K ad K' Kp:=by
 have hl:wb.dw=true/\av wb=[wb]:=by
  rcases g.g with ⟨h0,_,_⟩|⟨τ,r1,_,_⟩
  . omega
  . rw[r1]; exact⟨rfl,rfl⟩
 rw[cI jr];refine⟨⟨hl.1,by rw[hl.2]; rfl,by simp⟩,hk _ ⟨⟨wb,by rw[aT,hl.2]; rfl,?_⟩,?_⟩⟩
 . rw[cO,List.length_singleton];refine⟨?_,g.z,g.t,yQ _⟩;rcases g.g with g'|⟨τ,r1,r2,r3⟩
   . exact .inl g'
   . exact .inr ⟨τ,r1,by rw[iL (fB jr r2).symm]; exact r2,r3⟩
 . refine (h.fr.trans hf).trans λ c z hc hz _=>?_;rw[dW,if_neg hc]; exact hz
theorem RH {x:List AV} {K':AV->St->Prop} {Kp:AV->St->Prop} (hx:x.length=3) (hk:K' (.vec 1 .full x) U):(au (some (51,3)) (some [AV.int .u8 0,AV.str [],AV.int .i64 0]) 1 false [(0,.agg x)]).wp K U K' Kp:=by
 rw[hZ];refine⟨by omega,?_⟩;rw[ff (o:=0) (s:=3) rfl];refine⟨⟨rfl,hx,by simp[bT]⟩,?_⟩;rw[ja];have:av (.agg x)=x:=rfl;rw[this];have e:ay (bT 1 [AV.int .u8 0,AV.str [],AV.int .i64 0]) 0 x=x:=by
  match x,hx with
  | [p,q,r],_=>rfl
 rw[e];exact⟨hx,hk⟩
theorem ad3 {x:List AV} {k:AV->Prop} (hx:x.length=3) (hk:k (.vec 1 .full x)):az K (au (some (51,3)) (some [AV.int .u8 0,AV.str [],AV.int .i64 0]) 1 false [(0,.agg x)]) k:=by
 rw[zz];refine⟨by omega,?_⟩;rw[vR (o:=0) (s:=3) rfl];refine⟨⟨rfl,hx,by simp[bT]⟩,?_⟩;rw[Cq];have:av (.agg x)=x:=rfl;rw[this];have e:ay (bT 1 [AV.int .u8 0,AV.str [],AV.int .i64 0]) 0 x=x:=by
  match x,hx with
  | [p,q,r],_=>rfl
 rw[e];exact⟨hx,hk⟩
theorem PS.ld (h:PS b v ar bB U):∃ vl,U.box b=some [v,vl,opsV]:=by
 obtain⟨⟨vl,h1,_⟩,_⟩:=h;exact⟨vl,h1⟩
theorem X2 {s:aG} {R:cV->St->Prop} (h:PS b v ar bB U) (hb:bB.length<=NT) (hk:∀ ad,PS b v ar (bB++[eK s]) ad->R (.ret (.aK [])) ad):ae K 232 [.box b 0,.str s] U R:=by
 refine VG ?_;unfold VF;obtain⟨vl,jr⟩:=h.ld;simp only[bW,al];refine gR (ej jr rfl ?_);refine pK [.int .u8 1,.str s,.int .i64 0] rfl ?_;refine RH rfl (GF (x:=eK s) h hb rfl jr λ ad wb g wC f _=>?_);refine gR (DO h f wC g λ bf h2=>aq.mk (hk _ h2))
theorem RS:∀ (f n:Nat),n<10 ^ f->0<f->Lib.decDigits n=lV f n
 | 0,n,h,h0=>by omega
 | f+1,n,h,_=>by
   rw[Lib.decDigits,lV]
   by_cases h9:n<10
   . rw[dif_pos h9,if_pos h9]
   . rw[dif_neg h9,if_neg h9];have hf:0<f:=by
      cases f with
      | zero=>simp at h; omega
      | succ f=>omega
     rw[RS f (n / 10) (by rw[Nat.pow_succ]at h; omega) hf]
theorem S5 {n:Int} (h:dV n=true):Lib.itoa n=nH n:=by
 have hn:=of_decide_eq_true h;have hp:(1000000:Nat)<10 ^ 20:=by decide
 unfold Lib.itoa nH;rw[if_neg (by omega),RS 20 _ (by omega) (by omega)]
theorem QK {n:Int} {R:cV->St->Prop} (hn:dV n=true) (h:PS b v ar bB U) (hb:bB.length<=NT) (hk:∀ ad,PS b v ar (bB++[jh n]) ad->R (.ret (.aK [])) ad):ae K 234 [.box b 0,.int .i64 n] U R:=by
 refine VK ?_;unfold VJ;obtain⟨vl,jr⟩:=h.ld;have Hv:=of_decide_eq_true hn;simp only[bW,aJ];refine jL (eZ jr rfl (oz (HL n (by omega) (by omega)) ?_));rw[S5 hn];refine ad1 [.int .u8 2,.str (nH n),.int .i64 0] rfl ?_;refine ad3 rfl (GF (x:=jh n) h hb rfl jr λ ad wb g wC f pQ=>⟨λ c hc=>?_,?_⟩)
 . simp only[eE,gx,cK,List.not_mem_nil,or_false]at hc;subst hc;exact pQ
 . refine jL (DO h f wC g λ bf h2=>aq.mk (hk _ h2))
theorem Mz {c:UInt8} {s:aG}:aB (c::s)=(if 97<=c.toNat/\c.toNat<=122 then 3 else 4,c::s):=by
 unfold aB mM;simp only[eg]
theorem X4 {ws:List aG} {cp:mr} {R:cV->St->Prop} (C0:∀ w∈ws,w≠[]) (hl:ws.length<=1000) (h:PS b v ar bB U) (hb:(bB++ws.map aB).length<=NT) (hk:∀ ad,PS b v ar (bB++ws.map aB) ad->R (.ret (.aK [])) ad):ae K 231 [.box b 0,.vec ws.length cp (ws.map .str)] U R:=by
 refine VE ?_;unfold VD;rw[show cr (some false) (.vec ws.length cp (ws.map .str))=.val (.int .i64 ws.length) from rfl,al];refine⟨λ m w0 w7 w8 w9 ad=>∃ i:Nat,m=ws.length-i/\i<=ws.length/\w0=.box b 0/\w7=.vec ws.length cp (ws.map .str)/\w8=.int .i64 ws.length/\w9=.int .i64 (i:Nat)/\PS b v ar (bB++(ws.take i).map aB) ad,⟨_,0,rfl,by omega,rfl,rfl,rfl,rfl,by simpa using h⟩,?_⟩;rintro m w0 w7 w8 w9 aS ⟨i,rfl,hi,rfl,rfl,rfl,rfl,h1⟩;rw[bV,al];refine ic (λ aN=>?_) λ kV=>?_
 . have aN:i<ws.length:=by omega
   obtain⟨w,hw⟩:∃ w,ws[i]=w:=⟨_,rfl⟩;have hx:ws[i]?=some w:=by simp[aN,hw]
   have ca:=C0 w (gw hx);obtain⟨c,s,rfl⟩:∃ c s,w=c::s:=by
    cases w with
    | nil=>exact absurd rfl ca
    | cons c s=>exact⟨c,s,rfl⟩
   have hd:(ws.map AV.str).drop i=.str (c::s)::(ws.map AV.str).drop (i+1):=by
    rw[gM (by simpa using aN)]; simp[hw]
   rw[zN,fW,Nat.mul_one,hd];refine⟨by omega,?_⟩;rw[oK,bC];intro j hj;have tail:∀ k:Int,k=((aB (c::s)).1:Nat)->j (.box b 0) (.str (c::s)) (.int .u8 k) (.vec ws.length cp (ws.map .str)) (.int .i64 ws.length) (.int .i64 (i:Nat)) aS:=by
    intro k x9;refine hj _ _ _ _ _ _ _ ?_;obtain⟨vl,jr⟩:=h1.ld;simp only[bW,al];refine gR (ej jr rfl ?_);refine pK [.int .u8 k,.str (c::s),.int .i64 0] rfl ?_;have wB:(bB++(ws.take i).map aB).length<=NT:=by simp at hb ⊢; omega
    refine RH rfl (GF (x:=aB (c::s)) h1 wB (by rw[x9]; rfl) jr λ ad wb g wC f _=>?_);refine gR (DO h1 f wC g λ bf h2=>?_);rw[dO];refine⟨bI (by omega) (by omega),ws.length-(i+1),by omega,i+1,rfl,by omega,rfl,rfl,rfl,by simp,?_⟩;have e:(ws.take (i+1)).map aB=(ws.take i).map aB++[aB (c::s)]:=by rw[tK,hx]; simp
    rw[e,<- dc]; exact h2
   rw[CD];refine⟨by simp,?_⟩;simp only[Int.toNat_zero,List.getD_cons_zero,jc,al,bo]
   by_cases h97:(97:Int)<=(c.toNat:Int)
   . simp only[h97,dG,iY,aP,cB,aJ];rw[Jr];refine⟨by simp,?_⟩;simp only[Int.toNat_zero,List.getD_cons_zero,nG,aJ,aQ,if_true,al];refine ic (λ aiv=>tail 3 ?_) λ aiv=>tail 4 ?_
     . rw[Mz,if_pos (by omega)]; rfl
     . rw[Mz,if_neg (by omega)]; rfl
   . simp only[h97,eS,show (false==true)=false from rfl,aP,cN,aQ,bZ,if_false,al];refine cY (tail 4 ?_);rw[Mz,if_neg (by omega)]; rfl
 . have hi:i=ws.length:=by omega
   subst hi;rw[tJ]at h1;exact aq.mk (hk _ h1)
end
end Go.Rip
namespace Go.Rip
open Go.Proofs Go.RowKit
theorem HW {k:Int} (h:cE k=true):sG k=(bP k:Nat):=by
 have h:=of_decide_eq_true h;have key:∀ n:Fin 26,sG ((n.val:Int)+9)=(bP ((n.val:Int)+9):Nat):=by decide
 have:=key ⟨(k-9).toNat,by omega⟩;have e:(((k-9).toNat:Int)+9)=k:=by omega
 simp only[e]at this;exact this
def rB (v:AV) (n:Nat) (t:Tre):Prop:=∀ (b:Nat) (ar U:St) (bB:List Tx) (R:cV->St->Prop),PS b v ar bB U->(bB++t.pr).length<=NT->(∀ ad,PS b v ar (bB++t.pr) ad->R (.ret (.aK [])) ad)->ae K 123 [.box b 0,.int .i64 (n:Nat)] U R
section
variable {b n:Nat} {U ar aS ad:St} {v:AV} {bB l rest:List Tx} {L:List Nd} {t:Tre}
theorem di {w:aG} {K':AV->St->Prop} {Kp:AV->St->Prop} (h:K' (.vec [w].length .full ([w].map .str)) U):(au (some (9,1)) (some [AV.str []]) 1 false [(0,(AV.str w))]).wp K U K' Kp:=afU rfl rfl rfl h
theorem qm {w u:aG} {K':AV->St->Prop} {Kp:AV->St->Prop} (h:K' (.vec [w,u].length .full ([w,u].map .str)) U):(au (some (9,1)) (some [AV.str []]) 2 false [(0,(AV.str w)),(1,(AV.str u))]).wp K U K' Kp:=afV rfl rfl rfl rfl h
theorem No {w u z:aG} {K':AV->St->Prop} {Kp:AV->St->Prop} (h:K' (.vec [w,u,z].length .full ([w,u,z].map .str)) U):(au (some (9,1)) (some [AV.str []]) 3 false [(0,(AV.str w)),(1,(AV.str u)),(2,(AV.str z))]).wp K U K' Kp:=by
 rw[hZ];refine⟨by omega,?_⟩;rw[ff (o:=0) (s:=1) rfl];refine⟨⟨rfl,rfl,by simp[bT]⟩,?_⟩;rw[ff (o:=1) (s:=1) rfl];refine⟨⟨rfl,rfl,by simp[bT,ay,av]⟩,?_⟩;rw[ff (o:=2) (s:=1) rfl];refine⟨⟨rfl,rfl,by simp[bT,ay,av]⟩,?_⟩;rw[ja];exact⟨rfl,h⟩
theorem ee {ws:List aG} {rest:List Tx} {K':AV->St->Prop} {Kp:AV->St->Prop} (C0:∀ w∈ws,w≠[]) (hl:ws.length<=1000) (h:PS b v ar bB U) (hb:(bB++(ws.map aB++rest)).length<=NT)
 (hk:∀ ad,PS b v ar (bB++ws.map aB) ad->((bB++ws.map aB)++rest).length<=NT->K' (.aK []) ad):ae K 231 [.box b 0,.vec ws.length .full (ws.map .str)] U (ah K' Kp) :=
 X4 C0 hl h (by simp at hb ⊢; omega) λ ad h'=>hk ad h' (by simpa using hb)
theorem oD {s:aG} {rest:List Tx} {K':AV->St->Prop} {Kp:AV->St->Prop} (h:PS b v ar bB U) (hb:(bB++(eK s::rest)).length<=NT) (hk:∀ ad,PS b v ar (bB++[eK s]) ad->((bB++[eK s])++rest).length<=NT->K' (.aK []) ad):ae K 232 [.box b 0,.str s] U (ah K' Kp) :=
 X2 h (by simp at hb; omega) λ ad h'=>hk ad h' (by simpa using hb)
theorem sg {m:Int} {rest:List Tx} {K':AV->St->Prop} {Kp:AV->St->Prop} (hm:dV m=true) (h:PS b v ar bB U) (hb:(bB++(jh m::rest)).length<=NT) (hk:∀ ad,PS b v ar (bB++[jh m]) ad->((bB++[jh m])++rest).length<=NT->K' (.aK []) ad):ae K 234 [.box b 0,.int .i64 m] U (ah K' Kp) :=
 QK hm h (by simp at hb; omega) λ ad h'=>hk ad h' (by simpa using hb)
theorem tN {rest:List Tx} {K':AV->St->Prop} {Kp:AV->St->Prop} (g:rB v n t) (h:PS b v ar bB U) (hb:(bB++(t.pr++rest)).length<=NT) (hk:∀ ad,PS b v ar (bB++t.pr) ad->((bB++t.pr)++rest).length<=NT->K' (.aK []) ad):ae K 123 [.box b 0,.int .i64 (n:Nat)] U (ah K' Kp) :=
 g _ _ _ _ _ h (by simp at hb ⊢; omega) λ ad h'=>hk ad h' (by simpa using hb)
theorem ab8 {x:Nd} {c:AV} {o:Nat} (hv:eW v L.length (cg L)) (hx:L[n]?=some x) (hc:(dA x)[o]?=some c) (h:PS b v ar bB U) {K':AV->St->Prop} {Kp:AV->St->Prop} (hk:K' c U) :
 (aZ (.box b 0)).wp K U (λ v8 U=>(af (some 0) v8).wp K U (λ v9 U=>(af (some 0) v9).wp K U (λ v10 U=>(af (some 0) v10).wp K U (λ v11 U=>(ak (some (false,1)) v11 U).wp K U (λ v12 U =>
   (aE (some (43,6)) none v12 (.int .i64 (n:Nat))).wp K U (λ cA U=>(af (some o) cA).wp K U (λ cz U=>(ak (some (false,1)) cz U).wp K U K' Kp) Kp) Kp) Kp) Kp) Kp) Kp) Kp:=by
 obtain⟨vl,jr⟩:=h.ld;simp only[bW,al];exact gR (gR (gR (ej jr rfl (Y9 (hv.aeT (U:=U)) hx hc hk))))
theorem aco {least:Nat} {x:Nd} {R:cV->St->Prop} (hv:eW v L.length (cg L)) (hx:L[n]?=some x) (vI:x.kind=t.kind) (ht:cE t.kind=true) (g:rB v n t) (h:PS b v ar bB U) (hb:(bB++dP t.kind least t.pr).length<=NT)
 (hk:∀ ad,PS b v ar (bB++dP t.kind least t.pr) ad->R (.ret (.aK [])) ad):ae K 235 [.box b 0,.int .i64 (n:Nat),.int .i64 (least:Nat)] U R:=by
 refine VM ?_;unfold VL;refine ab8 hv hx (show (dA x)[0]?=some (.int .u8 x.kind) from rfl) h ?_;obtain⟨vl,jr⟩:=h.ld;refine Bd (l:=[]) jr ?_;rw[bE,vI,HW ht,jc,al];refine ic (λ kV=>?_) λ aN=>?_
 . have e:dP t.kind least t.pr=t.pr:=by unfold dP; rw[if_pos (by omega)]
   rw[e]at hb hk;exact g _ _ _ _ _ h hb λ ad h'=>aq.mk (hk ad h')
 . have e:dP t.kind least t.pr=[bK].map aB++(t.pr++[bJ].map aB):=by unfold dP; rw[if_neg (by omega)]; rfl
   rw[e]at hb hk;refine di (ee (by decide) (by decide) h hb λ aS h1 iN=>?_);refine tN g h1 iN λ bf h2 gz=>?_;refine di (ee (rest:=[]) (by decide) (by decide) h2 (by simpa using gz) λ bR h3 _=>aq.mk (hk bR ?_));simpa using h3
theorem yq {least:Nat} {x:Nd} {rest:List Tx} {K':AV->St->Prop} {Kp:AV->St->Prop} (hv:eW v L.length (cg L)) (hx:L[n]?=some x) (vI:x.kind=t.kind) (ht:cE t.kind=true) (g:rB v n t) (h:PS b v ar bB U) (hb:(bB++(dP t.kind least t.pr++rest)).length<=NT)
 (hk:∀ ad,PS b v ar (bB++dP t.kind least t.pr) ad->((bB++dP t.kind least t.pr)++rest).length<=NT->K' (.aK []) ad):ae K 235 [.box b 0,.int .i64 (n:Nat),.int .i64 (least:Nat)] U (ah K' Kp) :=
 aco hv hx vI ht g h (by simp at hb ⊢; omega) λ ad h'=>hk ad h' (by simpa using hb)
theorem BG (w:aG) (m:List Tx):∀ {ls:List (List Tx)},ls≠[]->dh w (ls++[m])=dh w ls++aB w::m
 | [],h=>absurd rfl h
 | l::ls,_=>by rw[dK,oR,oR]; simp
theorem TT (w:aG) (ls:List (List Tx)) (j:Nat):(dh w (ls.take j)).length<=(dh w ls).length:=by
 cases ls with
 | nil=>simp
 | cons l ls =>
   cases j with
   | zero=>simp[dh]
   | succ j =>
     rw[List.take_succ_cons,oR,oR,cO,cO];have:(List.flatMap (λ m=>aB w::m) (ls.take j)).length<=(List.flatMap (λ m=>aB w::m) ls).length:=by
      conv=>rhs; rw[<- List.take_append_drop j ls,List.flatMap_append,cO]
      omega
     omega
theorem lz {vk:AV} {ks:List Nat} {i k e:Nat} {U:St} {K':AV->St->Prop} {Kp:AV->St->Prop} (hv:eW vk ks.length (iX ks)) (hx:ks[i]?=some k) (h:K' (.int .i64 (k:Nat)) U) :
 (aE (some (e,1)) none vk (.int .i64 (i:Nat))).wp K U (λ p τ=>(ak (some (false,1)) p τ).wp K τ K' Kp) Kp:=by
 have aN:=(dp.1 hx).1;obtain⟨r,hr⟩:=ints_at hv hx;rw[hr,wp_cond,al,oK,bC];exact⟨by omega,h⟩
theorem abG {vk:AV} {ks:List Nat} {ts:List Tre} {R:cV->St->Prop} (dU:eW vk ks.length (iX ks)) (hlen:ks.length=ts.length) (hl:ks.length<=100000) (hg:∀ (i n:Nat) (t:Tre),ks[i]?=some n->ts[i]?=some t->rB v n t) (h:PS b v ar bB U)
 (hb:(bB++dh cH (ts.map Tre.pr)).length<=NT) (hk:∀ ad,PS b v ar (bB++dh cH (ts.map Tre.pr)) ad->R (.ret (.aK [])) ad):ae K 233 [.box b 0,vk] U R:=by
 refine VI ?_;unfold VH;rw[dU.len,al];refine⟨λ m w0 w6 w7 w8 ad=>∃ i:Nat,m=ks.length-i/\i<=ks.length/\w0=.box b 0/\w6=vk/\w7=.int .i64 ks.length/\w8=.int .i64 (i:Nat)/\PS b v ar (bB++dh cH ((ts.map Tre.pr).take i)) ad,⟨_,0,rfl,by omega,rfl,rfl,rfl,rfl,by simpa [dh] using h⟩,?_⟩;rintro m w0 w6 w7 w8 aS ⟨i,rfl,hi,rfl,rfl,rfl,rfl,h1⟩;rw[bV,al];refine ic (λ aN=>?_) λ kV=>?_
 . have aN:i<ks.length:=by omega
   obtain⟨n,hn⟩:∃ n,ks[i]?=some n:=⟨ks[i],by simp[aN]⟩;obtain⟨t,ht⟩:∃ t,ts[i]?=some t:=⟨ts[i]'(by omega),by simp[show i<ts.length by omega]⟩;have g:=hg i n t hn ht;have r9:(ts.map Tre.pr)[i]?=some t.pr:=by simp[ht]
   have p7:(ts.map Tre.pr).take (i+1)=(ts.map Tre.pr).take i++[t.pr]:=by rw[tK,r9]; rfl
   have hle:=TT cH (ts.map Tre.pr) (i+1);have eY:=hb;rw[cO]at eY;refine lz dU hn ?_;intro j hj;have tail:∀ (tk:List Tx) (ad:St),PS b v ar tk ad->tk++t.pr=bB++dh cH ((ts.map Tre.pr).take (i+1))->j (.box b 0) (.int .i64 (n:Nat)) w6 (.int .i64 ks.length) (.int .i64 (i:Nat)) ad:=by
    intro tk ad h' e;refine hj _ _ _ _ _ _ ?_;refine g _ _ _ _ _ h' (by rw[e,cO]; omega) λ bf h2=>?_;rw[bE,dO];exact⟨bI (by omega) (by omega),ks.length-(i+1),by omega,i+1,rfl,by omega,rfl,rfl,rfl,by simp,by rw[<- e]; exact h2⟩
   rw[eM,al];refine ic (λ uN=>?_) λ hng=>?_
   . have ca:(ts.map Tre.pr).take i≠[]:=λ e=>by
      have:=congrArg List.length e;rw[List.length_take,List.length_map,k0]at this; omega
     have Ae:=BG cH t.pr ca;rw[p7]at hle tail;rw[Ae]at hle tail;refine di (ee (ws:=[cH]) (rest:=t.pr) (by decide) (by decide) h1 (by simp at hb hle ⊢; omega) λ bf h2 _=>?_);exact tail _ bf h2 (by simp)
   . have AW:i=0:=by omega
     subst AW;exact tail _ aS h1 (by rw[p7]; simp[dh])
 . have hi:i=ks.length:=by omega
   subst hi;rw[qg (by simp; omega)]at h1;exact aq.mk (hk _ h1)
def eh:List aG->List Tre->List Tx
 | w::ws,t::ts=>aB w::(dP t.kind 1 t.pr++eh ws ts)
 | _,_=>[]
theorem xw:∀ (i:Nat) (ws:List aG) (ts:List Tre),eh ws ts=eh (ws.take i) (ts.take i)++eh (ws.drop i) (ts.drop i)
 | 0,ws,ts=>by simp[eh]
 | i+1,[],ts=>by simp[eh]
 | i+1,w::ws,[]=>by simp[eh]
 | i+1,w::ws,t::ts=>by
   rw[List.take_succ_cons,List.take_succ_cons,List.drop_succ_cons,List.drop_succ_cons,eh,eh,xw i ws ts]; simp
theorem TC {vk:AV} {ks:List Nat} {ts:List Tre} {ws:List aG} {R:cV->St->Prop} (hv:eW v L.length (cg L)) (dU:eW vk ks.length (iX ks)) (hlen:ks.length=ts.length) (hwl:ws.length=ts.length) (hl:ks.length<=100000) (C0:∀ w∈ws,w≠[])
 (hg:∀ (i n:Nat) (t:Tre),ks[i]?=some n->ts[i]?=some t->rB v n t/\cE t.kind=true/\∃ x,L[n]?=some x/\x.kind=t.kind) (h:PS b v ar bB U)
 (hb:(bB++eh ws ts).length<=NT) (hk:∀ ad,PS b v ar (bB++eh ws ts) ad->R (.ret (.aK [])) ad):ae K 237 [.box b 0,vk,.vec ws.length .full (ws.map .str)] U R:=by
 refine VQ ?_;unfold VP;rw[dU.len,al];refine⟨λ m w0 w2 w8 w9 wZ ad=>∃ i:Nat,m=ks.length-i/\i<=ks.length/\w0=.box b 0/\w2=.vec ws.length .full (ws.map .str)/\w8=vk/\w9=.int .i64 ks.length/\wZ=.int .i64 (i:Nat)/\PS b v ar (bB++eh (ws.take i) (ts.take i)) ad,⟨_,0,rfl,by omega,rfl,rfl,rfl,rfl,rfl,by simpa [eh] using h⟩,?_⟩;rintro m w0 w2 w8 w9 wZ aS ⟨i,rfl,hi,rfl,rfl,rfl,rfl,rfl,h1⟩;rw[bV,al];refine ic (λ aN=>?_) λ kV=>?_
 . have aN:i<ks.length:=by omega
   obtain⟨n,hn⟩:∃ n,ks[i]?=some n:=⟨ks[i],by simp[aN]⟩;obtain⟨t,ht⟩:∃ t,ts[i]?=some t:=⟨ts[i]'(by omega),by simp[show i<ts.length by omega]⟩;obtain⟨w,hw⟩:∃ w,ws[i]?=some w:=⟨ws[i]'(by omega),by simp[show i<ws.length by omega]⟩;obtain⟨g,gt,x,hx,vI⟩:=hg i n t hn ht;have hwn:=C0 w (gw hw);have e1:=xw i ws ts;have ed:eh (ws.drop i) (ts.drop i)=aB w::(dP t.kind 1 t.pr++eh (ws.drop (i+1)) (ts.drop (i+1))):=by
    rw[gM (show i<ws.length by omega),gM (show i<ts.length by omega),eh];have a1:ws[i]'(by omega)=w:=(dp.1 hw).2;have a2:ts[i]'(by omega)=t:=(dp.1 ht).2;rw[a1,a2]
   have e2:=xw (i+1) ws ts;rw[e1,ed]at hb;have e3:eh (ws.take (i+1)) (ts.take (i+1))=eh (ws.take i) (ts.take i)++aB w::dP t.kind 1 t.pr:=by
    have:eh (ws.take (i+1)) (ts.take (i+1))++eh (ws.drop (i+1)) (ts.drop (i+1))=(eh (ws.take i) (ts.take i)++aB w::dP t.kind 1 t.pr)++eh (ws.drop (i+1)) (ts.drop (i+1)):=by
     rw[<- e2,e1,ed]; simp
    exact List.append_cancel_right this
   refine lz dU hn ?_;have hd:(ws.map AV.str).drop i=.str w::(ws.map AV.str).drop (i+1):=by
    rw[gM (by simp; omega)];have a1:ws[i]'(by omega)=w:=(dp.1 hw).2;simp[a1]
   rw[zN,fW,Nat.mul_one,hd];refine⟨by omega,?_⟩;rw[oK,bC];refine di (ee (ws:=[w]) (rest:=dP t.kind 1 t.pr++eh (ws.drop (i+1)) (ts.drop (i+1))) (λ u hu=>by rw[kn]at hu; subst hu; exact hwn) (by simp) h1 (by simpa using hb) λ bf h2 gz=>?_);refine yq (least:=1) hv hx vI gt g h2 gz λ bR h3 _=>?_;rw[dO];refine⟨bI (by omega) (by omega),ks.length-(i+1),by omega,i+1,rfl,by omega,rfl,rfl,rfl,rfl,by simp,?_⟩;rw[e3];simpa using h3
 . have hi:i=ks.length:=by omega
   subst hi;rw[qg (by omega),qg (by omega)]at h1;exact aq.mk (hk _ h1)
end
end Go.Rip
namespace Go.Rip
open Go.Proofs Go.RowKit
section
variable {b n:Nat} {U ar aS ad:St} {v:AV} {bB l rest:List Tx} {L:List Nd} {t:Tre}
structure fZ (v:AV) (L:List Nd) (pl:List Nat) (ks:List Tre):Prop where
 len:pl.length=ks.length
 nd:∀ (i n:Nat) (t:Tre),pl[i]?=some n->ks[i]?=some t->rB v n t/\∃ x,L[n]?=some x/\x.kind=t.kind
def Az (t:Tre) (z:Int):List AV:=[.int .u8 t.kind,.str t.text,.int .i64 t.n,.int .i64 t.m,.int .i64 t.at_,.int .i64 z]
def km (f:FuncId) (v:AV) (t:Tre) (pl:List Nat):Prop:=∀ (b:Nat) (ar U:St) (bB:List Tx) (R:cV->St->Prop) (z:Int) (vk:AV),eW vk pl.length (iX pl)->PS b v ar bB U->(bB++t.pr).length<=NT->(∀ ad,PS b v ar (bB++t.pr) ad->R (.ret (.aK [])) ad)->ae K f [.box b 0,.agg (Az t z),vk] U R
theorem fZ.one {pl:List Nat} {A:Tre} (h:fZ v L pl [A]):∃ p,pl=[p]/\rB v p A/\∃ x,L[p]?=some x/\x.kind=A.kind:=by
 match pl,h.len with
 | [p],_=>exact⟨p,rfl,h.nd 0 p A rfl rfl⟩
theorem fZ.two {pl:List Nat} {A B:Tre} (h:fZ v L pl [A,B]):∃ p q,pl=[p,q]/\(rB v p A/\∃ x,L[p]?=some x/\x.kind=A.kind)/\rB v q B/\∃ x,L[q]?=some x/\x.kind=B.kind:=by
 match pl,h.len with
 | [p,q],_=>exact⟨p,q,rfl,h.nd 0 p A rfl rfl,h.nd 1 q B rfl rfl⟩
theorem fZ.three {pl:List Nat} {A B C:Tre} (h:fZ v L pl [A,B,C]):∃ p q r,pl=[p,q,r]/\(rB v p A/\∃ x,L[p]?=some x/\x.kind=A.kind)/\(rB v q B/\∃ x,L[q]?=some x/\x.kind=B.kind)/\rB v r C/\∃ x,L[r]?=some x/\x.kind=C.kind:=by
 match pl,h.len with
 | [p,q,r],_=>exact⟨p,q,r,rfl,h.nd 0 p A rfl rfl,h.nd 1 q B rfl rfl,h.nd 2 r C rfl rfl⟩
theorem fZ.app {pl:List Nat} {ks ks':List Tre} (h:fZ v L pl (ks++ks')):fZ v L (pl.take ks.length) ks/\fZ v L (pl.drop ks.length) ks':=by
 have hl:=h.len;rw[cO]at hl;refine⟨⟨by rw[List.length_take]; omega,λ i n t h1 h2=>?_⟩,⟨by rw[List.length_drop]; omega,λ i n t h1 h2=>?_⟩⟩
 . have hi:=(dp.1 h2).1;rw[List.getElem?_take,if_pos hi]at h1;exact h.nd i n t h1 (by rw[uG hi]; exact h2)
 . rw[List.getElem?_drop]at h1;exact h.nd _ n t h1 (by rw[List.getElem?_append_right (by omega),Nat.add_sub_cancel_left]; exact h2)
theorem gG {C:List AV} {K':AV->St->Prop} {Kp:AV->St->Prop} (h:PS b v ar bB U) (hk:∀ b4 aS,b4≠b->aS.box b4=some C->PS b v aS bB aS->(∀ l ad,PS b v aS l ad->PS b v ar l ad)->K' (.box b4 0) aS):(fL (.agg C)).wp K U K' Kp:=by
 rw[gd rfl];intro b4 gk;obtain⟨vl,jr⟩:=h.ld;have h1:=h.mono (bg gk (x:=.box (av (.agg C))));exact hk b4 _ (gk.bO jr).symm aD h1.Fq λ l ad h'=>h1.app h'
theorem ir {b4 o:Nat} {C:List AV} {c:AV} {tk:List Tx} {K':AV->St->Prop} {Kp:AV->St->Prop} (n4:b4≠b) (m4:aS.box b4=some C) (h':PS b v aS tk ad) (hc:C[o]?=some c) (k:K' c ad) :
 (af (some o) (.box b4 0)).wp K ad (λ v8 U=>(ak (some (false,1)) v8 U).wp K U K' Kp) Kp:=by
 have aN:=(dp.1 hc).1;have hd:C.drop (0+o)=c::C.drop (o+1):=by
  rw[db,gM aN,(dp.1 hc).2]
 exact gR (ej (h'.fr.aY n4 m4) hd k)
theorem gE {bt:BT} {l:Bool} {k:IntKind} {p q:Int} {A B:AV->St->Prop} {Kp:AV->St->Prop} (h:p≠q) (hk:B (.bool false) U):(aw .eql bt l (.int k p) (.int k q)).wp K U (λ v U=>ax v (A v U) (B v U)) Kp:=by
 rw[bA,al,decide_eq_false h];exact cY hk
theorem qZ {bt:BT} {l:Bool} {k:IntKind} {p q:Int} {A B:AV->St->Prop} {Kp:AV->St->Prop} (h:p=q) (hk:A (.bool true) U):(aw .eql bt l (.int k p) (.int k q)).wp K U (λ v U=>ax v (A v U) (B v U)) Kp:=by
 rw[bA,al,decide_eq_true h];exact dz hk
theorem lf {vk:AV} {pl:List Nat} {ts:List Tre} {ws:List aG} {rest:List Tx} {K':AV->St->Prop} {Kp:AV->St->Prop} (hv:eW v L.length (cg L)) (dU:eW vk pl.length (iX pl)) (hp:fZ v L pl ts) (htm:∀ t∈ts,cE t.kind=true) (hwl:ws.length=ts.length) (hl:ts.length<=1000) (C0:∀ w∈ws,w≠[])
 (h:PS b v ar bB U) (hb:(bB++(eh ws ts++rest)).length<=NT) (hk:∀ ad,PS b v ar (bB++eh ws ts) ad->((bB++eh ws ts)++rest).length<=NT->K' (.aK []) ad):ae K 237 [.box b 0,vk,.vec ws.length .full (ws.map .str)] U (ah K' Kp) :=
 TC hv dU hp.len hwl (by have:=hp.len; omega) C0 (λ i n t h1 h2=>⟨(hp.nd i n t h1 h2).1,htm t (gw h2),(hp.nd i n t h1 h2).2⟩) h (by simp at hb ⊢; omega) λ ad h'=>hk ad h' (by simpa using hb)
theorem Cv {vk:AV} {pl:List Nat} {ts:List Tre} {rest:List Tx} {K':AV->St->Prop} {Kp:AV->St->Prop} (dU:eW vk pl.length (iX pl)) (hp:fZ v L pl ts) (hl:ts.length<=1000) (h:PS b v ar bB U)
 (hb:(bB++(dh cH (ts.map Tre.pr)++rest)).length<=NT) (hk:∀ ad,PS b v ar (bB++dh cH (ts.map Tre.pr)) ad->((bB++dh cH (ts.map Tre.pr))++rest).length<=NT->K' (.aK []) ad):ae K 233 [.box b 0,vk] U (ah K' Kp) :=
 abG dU hp.len (by have:=hp.len; omega) (λ i n t h1 h2=>(hp.nd i n t h1 h2).1) h (by simp at hb ⊢; omega) λ ad h'=>hk ad h' (by simpa using hb)
theorem o9 {vk:AV} {pl:List Nat} (hv:eW vk pl.length (iX pl)) (h0:pl≠[]) {i j:Nat} (gq:i<=j) (hj:j<=pl.length) {hi:Option AV} (hhi:eI pl.length hi=some (j:Int)) {lo:Option AV} (hlo:eI 0 lo=some (i:Int)) {K':AV->St->Prop} {Kp:AV->St->Prop}
 (hk:∀ c,K' (.vec ((pl.take j).drop i).length c (iX ((pl.take j).drop i))) U):(eD false (some (3,1)) vk lo hi).wp K U K' Kp:=by
 rcases hv with ⟨h1,_,_⟩|⟨c,rfl⟩
 . exact absurd (rL.1 h1) h0
 . rw[BJ,hhi,hlo];simp only[fW,Nat.mul_one];have:j-i=((pl.take j).drop i).length:=by simp; omega
   rw[this,wp_cond,al];have e:((iX pl).take j).drop i=iX ((pl.take j).drop i):=by simp[iX,List.map_take,List.map_drop]
   rw[e];exact⟨by omega,hk _⟩
section
variable {x:aG} {nn m a:Int} {pl:List Nat}
theorem abh {A B C:Tre} (hv:eW v L.length (cg L)) (hp:fZ v L pl [A,B,C]) (hA:cE A.kind=true) (hB:cE B.kind=true) (hC:cE C.kind=true):km 184 v (.mk 10 x nn m a [A,B,C]) pl:=by
 intro b ar U bB R z vk dU h hb hk;have e:(Tre.mk 10 x nn m a [A,B,C]).pr=eh [pg,oL,fe] [A,B,C]++[]:=by rw[Tre.cG]; simp[aV,eh]
 rw[e]at hb;refine qi ?_;unfold uu;refine gG h λ b4 aS n4 m4 h1 up=>ir n4 m4 h1 (show _=some (.int .u8 10) from rfl) ?_;refine gE (by decide) (qZ rfl ?_);refine No (lf hv dU hp (by simp[hA,hB,hC]) rfl (by simp) (by decide) h1 hb λ bf h2 _=>aq.mk (hk _ (up _ _ ?_)));rw[e,gx]; exact h2
theorem J8 {k:Int} {w u:aG} {A B:Tre} (Ht:(k,w,u)∈[((11:Int),gH,sY),(15,ia,fe)]) (hv:eW v L.length (cg L)) (hp:fZ v L pl [A,B]) (hA:cE A.kind=true) (hB:cE B.kind=true):km 184 v (.mk k x nn m a [A,B]) pl:=by
 intro b ar U bB R z vk dU h hb hk;have C0:∀ y∈[w,u],y≠[]:=by
  simp only[cK,List.not_mem_nil,or_false,hY]at Ht;rcases Ht with ⟨_,rfl,rfl⟩|⟨_,rfl,rfl⟩<;>decide
 have e:(Tre.mk k x nn m a [A,B]).pr=eh [w,u] [A,B]++[]:=by
  rw[Tre.cG];simp only[cK,List.not_mem_nil,or_false,hY]at Ht;rcases Ht with ⟨rfl,rfl,rfl⟩|⟨rfl,rfl,rfl⟩<;>simp[aV,eh]
 rw[e]at hb;refine qi ?_;unfold uu;refine gG h λ b4 aS n4 m4 h1 up=>ir n4 m4 h1 (show _=some (.int .u8 k) from rfl) ?_;have fin:=λ (bf:St) (h2:PS b v aS (bB++eh [w,u] [A,B]) bf)=>hk bf (up _ _ (by rw[e,gx]; exact h2));simp only[cK,List.not_mem_nil,or_false,hY]at Ht;rcases Ht with ⟨rfl,rfl,rfl⟩|⟨rfl,rfl,rfl⟩
 . refine gE (by decide) (gE (by decide) (qZ rfl ?_));exact qm (lf hv dU hp (by simp[hA,hB]) rfl (by simp) C0 h1 hb λ bf h2 _=>aq.mk (fin _ h2))
 . refine gE (by decide) (gE (by decide) (gE (by decide) (qZ rfl ?_)));exact qm (lf hv dU hp (by simp[hA,hB]) rfl (by simp) C0 h1 hb λ bf h2 _=>aq.mk (fin _ h2))
theorem WY {A:Tre} (hn:dV nn=true) (hm:dV m=true) (hv:eW v L.length (cg L)) (hp:fZ v L pl [A]) (hA:cE A.kind=true):km 184 v (.mk 12 x nn m a [A]) pl:=by
 intro b ar U bB R z vk dU h hb hk;have e:(Tre.mk 12 x nn m a [A]).pr=[lY].map aB++(eK x::([dk].map aB++(jh nn::([bQ].map aB++(jh m::(eh [kr] [A]++[])))))):=by rw[Tre.cG]; simp[aV,eh]
 rw[e]at hb;refine qi ?_;unfold uu;refine gG h λ b4 aS n4 m4 h1 up=>ir n4 m4 h1 (show _=some (.int .u8 12) from rfl) ?_;refine gE (by decide) (gE (by decide) (gE (by decide) (gE (by decide) (qZ rfl ?_))));refine di (ee (by decide) (by decide) h1 hb λ bf h2 b2=>ir n4 m4 h2 rfl ?_);refine oD h2 b2 λ bR h3 b3=>?_;refine di (ee (by decide) (by decide) h3 b3 λ cP h4 rQ=>ir n4 m4 h4 rfl ?_);refine sg hn h4 rQ λ du h5 b5=>?_;refine di (ee (by decide) (by decide) h5 b5 λ mh h6 b6=>ir n4 m4 h6 rfl ?_);refine sg hm h6 b6 λ jk h7 b7=>?_;refine di (lf hv dU hp (by simp[hA]) rfl (by simp) (by decide) h7 b7 λ tf h8 _=>aq.mk (hk _ (up _ _ ?_)));rw[e]; simpa [Tre.text,Tre.n,Tre.m] using h8
theorem PD {A B:Tre} (hv:eW v L.length (cg L)) (hp:fZ v L pl [A,B]) (hA:cE A.kind=true) (hB:cE B.kind=true):km 184 v (.mk 13 x nn m a [A,B]) pl:=by
 intro b ar U bB R z vk dU h hb hk;have e:(Tre.mk 13 x nn m a [A,B]).pr=[jb].map aB++(eK x::(eh [kr,fe] [A,B]++[])):=by rw[Tre.cG]; simp[aV,eh]
 rw[e]at hb;refine qi ?_;unfold uu;refine gG h λ b4 aS n4 m4 h1 up=>ir n4 m4 h1 (show _=some (.int .u8 13) from rfl) ?_;refine gE (by decide) (gE (by decide) (gE (by decide) (gE (by decide) (gE (by decide) (qZ rfl ?_)))));refine di (ee (by decide) (by decide) h1 hb λ bf h2 b2=>ir n4 m4 h2 rfl ?_);refine oD h2 b2 λ bR h3 b3=>?_;refine qm (lf hv dU hp (by simp[hA,hB]) rfl (by simp) (by decide) h3 b3 λ tf h8 _=>aq.mk (hk _ (up _ _ ?_)));rw[e]; simpa [Tre.text,Tre.n,Tre.m] using h8
theorem WZ {A:Tre} (hv:eW v L.length (cg L)) (hp:fZ v L pl [A]) (hA:cE A.kind=true):km 184 v (.mk 16 x nn m a [A]) pl:=by
 intro b ar U bB R z vk dU h hb hk;have e:(Tre.mk 16 x nn m a [A]).pr=eK x::(eh [bQ] [A]++[]):=by rw[Tre.cG]; simp[aV,eh]
 rw[e]at hb;refine qi ?_;unfold uu;refine gG h λ b4 aS n4 m4 h1 up=>ir n4 m4 h1 (show _=some (.int .u8 16) from rfl) ?_;refine gE (by decide) (gE (by decide) (gE (by decide) (gE (by decide) (gE (by decide) (gE (by decide) (qZ rfl ?_))))));refine ir n4 m4 h1 rfl ?_;refine oD h1 hb λ bR h3 b3=>?_;refine di (lf hv dU hp (by simp[hA]) rfl (by simp) (by decide) h3 b3 λ tf h8 _=>aq.mk (hk _ (up _ _ ?_)));rw[e]; simpa [Tre.text,Tre.n,Tre.m] using h8
theorem MO {A:Tre} (hn:dV nn=true) (hv:eW v L.length (cg L)) (hp:fZ v L pl [A]) (hA:cE A.kind=true):km 184 v (.mk 14 x nn m a [A]) pl:=by
 intro b ar U bB R z vk dU h hb hk;have e:(Tre.mk 14 x nn m a [A]).pr=[iU].map aB++(eK x::([bQ].map aB++(jh nn::(eh [kr] [A]++[])))):=by rw[Tre.cG]; simp[aV,eh]
 rw[e]at hb;refine qi ?_;unfold uu;refine gG h λ b4 aS n4 m4 h1 up=>ir n4 m4 h1 (show _=some (.int .u8 14) from rfl) ?_;refine gE (by decide) (gE (by decide) (gE (by decide) (gE (by decide) (gE (by decide) (gE (by decide) (gE (by decide) (qZ rfl ?_)))))));refine di (ee (by decide) (by decide) h1 hb λ bf h2 b2=>ir n4 m4 h2 rfl ?_);refine oD h2 b2 λ bR h3 b3=>?_;refine di (ee (by decide) (by decide) h3 b3 λ cP h4 rQ=>ir n4 m4 h4 rfl ?_);refine sg hn h4 rQ λ du h5 b5=>?_;refine di (lf hv dU hp (by simp[hA]) rfl (by simp) (by decide) h5 b5 λ tf h8 _=>aq.mk (hk _ (up _ _ ?_)));rw[e]; simpa [Tre.text,Tre.n,Tre.m] using h8
theorem acf:∀ (A:Tre) (ts:List Tre),dh cC ((A::ts).map λ t=>dP t.kind 1 t.pr)=dP A.kind 1 A.pr++ts.flatMap λ t=>aB cC::dP t.kind 1 t.pr:=by
 intro A ts;rw[dH,oR,List.flatMap_map]
theorem W0 {A:Tre} {ts:List Tre} (Ew:ts.length<=900) (hv:eW v L.length (cg L)) (hp:fZ v L pl (A::ts)) (hA:∀ t∈A::ts,cE t.kind=true):km 184 v (.mk 9 x nn m a (A::ts)) pl:=by
 intro b ar U bB R z vk dU h hb hk;have e:(Tre.mk 9 x nn m a (A::ts)).pr=dP A.kind 1 A.pr++ts.flatMap λ t=>aB cC::dP t.kind 1 t.pr:=by
  rw[Tre.cG,<- acf];simp only[aV,List.map_map]; rfl
 rw[e]at hb;have hlen:=hp.len;obtain⟨p0,pr,rfl⟩:∃ p r,pl=p::r:=by
  cases pl with
  | nil=>simp at hlen
  | cons p r=>exact⟨p,r,rfl⟩
 obtain⟨g0,x0,hx0,ai9⟩:=hp.nd 0 p0 A rfl rfl;have CU:fZ v L pr ts:=(fZ.app (ks:=[A]) hp).2;refine qi ?_;unfold uu;refine gG h λ b4 aS n4 m4 h1 up=>ir n4 m4 h1 (show _=some (.int .u8 9) from rfl) ?_;refine qZ rfl ?_;refine lz (i:=0) dU rfl ?_;refine yq (least:=1) hv hx0 ai9 (hA A (by simp)) g0 h1 hb λ bf h2 b2=>?_;refine o9 (i:=1) (j:=(p0::pr).length) dU (by simp) (by simp) (bX _) rfl rfl λ c=>?_;rw[tJ,show (p0::pr).drop 1=pr from rfl];rw[show cr (some false) (AV.vec pr.length c (iX pr))=.val (.int .i64 pr.length) from rfl,al];have A7:eW (AV.vec pr.length c (iX pr)) pr.length (iX pr):=.inr ⟨_,rfl⟩;have akq:=CU.len;refine⟨λ mm w0 Wp w19 w20 ad=>∃ i:Nat,mm=pr.length-i/\i<=pr.length/\w0=.box b 0/\Wp=AV.vec pr.length c (iX pr)/\w19=.int .i64 pr.length/\w20=.int .i64 (i:Nat)/\PS b v aS (bB++dP A.kind 1 A.pr++(ts.take i).flatMap λ t=>aB cC::dP t.kind 1 t.pr) ad,⟨_,0,rfl,by omega,rfl,rfl,rfl,rfl,by simpa using h2⟩,?_⟩;rintro mm w0 Wp w19 w20 bR ⟨i,rfl,hi,rfl,rfl,rfl,rfl,h3⟩;rw[bV,al];refine ic (λ aN=>?_) λ kV=>?_
 . have aN:i<pr.length:=by omega
   obtain⟨q,hq⟩:∃ q,pr[i]?=some q:=⟨pr[i],by simp[aN]⟩;obtain⟨t,ht⟩:∃ t,ts[i]?=some t:=⟨ts[i]'(by omega),by simp[show i<ts.length by omega]⟩;obtain⟨g,xq,hxq,aja⟩:=CU.nd i q t hq ht;have htm:=hA t (by simp[gw ht]);refine lz A7 hq ?_;refine Jw rfl rfl ?_;have e2:(ts.take (i+1)).flatMap (λ t=>aB cC::dP t.kind 1 t.pr)=(ts.take i).flatMap (λ t=>aB cC::dP t.kind 1 t.pr)++(eh [cC] [t]):=by
    rw[tK,ht]; simp[eh]
   have hle:((ts.take (i+1)).flatMap (λ t=>aB cC::dP t.kind 1 t.pr)).length<=(ts.flatMap λ t=>aB cC::dP t.kind 1 t.pr).length:=by
    conv=>rhs; rw[<- List.take_append_drop (i+1) ts,List.flatMap_append,cO]
    omega
   refine di (lf (ts:=[t]) (rest:=[]) (pl:=[q]) hv (.inr ⟨_,rfl⟩) ⟨rfl,λ j n' t' j1 j2=>?_⟩ (by simp[htm]) rfl (by simp) (by decide) h3 ?_ λ cP h4 _=>?_)
   . match j,j1,j2 with
     | 0,j1,j2 =>
       simp at j1 j2;subst j1 j2;exact⟨g,xq,hxq,aja⟩
   . rw[e2,cO]at hle;rw[gx];simp only[cO]at hb b2 ⊢;omega
   . rw[dO];refine⟨bI (by omega) (by omega),pr.length-(i+1),by omega,i+1,rfl,by omega,rfl,rfl,rfl,by simp,?_⟩;rw[e2,<- dc]; exact h4
 . have hi:i=pr.length:=by omega
   subst hi;rw[qg (by omega)]at h3;refine aq.mk (hk _ (up _ _ ?_));rw[e,<- dc]; exact h3
end
end
end Go.Rip
