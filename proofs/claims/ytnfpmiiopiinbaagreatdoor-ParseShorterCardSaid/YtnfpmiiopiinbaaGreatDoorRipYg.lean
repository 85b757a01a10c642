/- Lemmas for the proof: no conditions. -/
import Derived.Test.YtnfpmiiopiinbaaGreatDoorRipZz
import Derived.Test.YtnfpmiiopiinbaaGreatDoorRipYc
import Derived.Test.YtnfpmiiopiinbaaGreatDoorRipH
import Derived.Test.YtnfpmiiopiinbaaGreatDoorRipYf
import Derived.Test.YtnfpmiiopiinbaaGreatDoorRipO
set_option linter.unusedVariables false
set_option linter.unusedSimpArgs false
set_option linter.loopingSimpArgs false
namespace Go.Rip
open Go.Proofs Go.RowKit
theorem abL:zR=opsV:=by rfl
def kx (x:Tx):List AV:=[.int .u8 x.1,.str x.2,.int .i64 0]
def ov (l:List Tx):List AV:=l.flatMap kx
theorem KT (a b:List Tx):ov (a++b)=ov a++ov b:=by simp [ov]
theorem VU (x:Tx):ov [x]=kx x:=by simp [ov]
def Fr (b:Nat) (U ad:St):Prop:=∀ c x,c ≠ b->U.live c=some x->(∀ t,x=.tok t->t.e ≠ 51)->ad.live c=some x
section
variable {b c:Nat} {U au aR ad:St} {v:AV} {br l rest:List Tx}
theorem Fr.refl (b:Nat) (U:St):Fr b U U:=fun _ _ _ h _=>h
theorem Fr.trans (h:Fr b U aR) (k:Fr b aR ad):Fr b U ad:=fun c x n e t=>k c x n (h c x n e t) t
theorem Fr.mW (h:dm U ad):Fr b U ad:=fun c x _ e _=>h c x e
theorem Fr.bg (h:Fr b U ad) (n:c ≠ b) {y:List AV} (k:U.box c=some y):ad.box c=some y:=by
 cases e:U.live c with
 | none=>simp [St.box,e] at k
 | some x =>
   rw [dD ((h c x n e ?_).trans e.symm)]; exact k
   intro t ht
   subst ht
   simp [St.box,e] at k
structure PS (b:Nat) (v:AV) (au:St) (br:List Tx) (U:St):Prop where
 box:∃ vl,U.box b=some [v,vl,opsV]/\je (bV ⟨.e,0⟩) U vl 51 3 br.length (ov br)
 fr:Fr b au U
def NT:Nat:=1000000
theorem PS.mono (h:PS b v au br U) (e:dm U ad):PS b v au br ad:=by
 obtain ⟨⟨vl,h1,h2⟩,h3⟩:=h
 exact ⟨⟨vl,e.bg h1,h2.mono e⟩,h3.trans (.mW e)⟩
theorem PS.DE (h:PS b v au br U):PS b v U br U:=⟨h.box,Fr.refl _ _⟩
theorem PS.app (h:PS b v au br U) (k:PS b v U l ad):PS b v au l ad:=⟨k.box,h.fr.trans k.fr⟩
theorem EH {x:Tx} {y:AV} {K':AV->St->Prop} {Kp:AV->St->Prop} (h:PS b v au br U) (hb:br.length <= NT) (hy:y=.vec 1 .full (kx x)) {vl:AV} (iH:U.box b=some [v,vl,opsV])
 (hk:∀ ad uU,je (bV ⟨.e,0⟩) ad uU 51 3 (br.length+1) (ov (br++[x]))->ad.box b=some [v,vl,opsV]->Fr b U ad->ad.live b=U.live b->K' uU ad):(eR (some (51,3)) false vl y U).wp K U K' Kp:=by
 obtain ⟨⟨uU,h1,h2⟩,h3⟩:=h
 rw [iH] at h1
 obtain rfl:vl=uU:=by simpa using h1
 subst hy
 unfold NT at hb
 refine JZ h2 (m:=1) (l2:=kx x) rfl rfl (by omega) (by omega) fun ad w g k=>?_
 have jC:∀ {c z},U.live c=some z->(∀ t,z=.tok t->t.e ≠ 51)->∀ n l,vl ≠ .vec n (.own c) l:=fun hz ht n l hv=>by
  rcases h2.g with ⟨_,_,h3⟩ | ⟨τ,r1,r2,_⟩
  . rw [h3] at hv; cases hv
  . rw [r1] at hv; cases hv
    unfold St.tok at r2
    rw [hz] at r2
    split at r2
    . rename_i t e; cases e; cases r2; exact ht _ rfl rfl
    . cases r2
 have hbk:=(nT h2.g k).1 iH
 refine hk ad w (by rw [KT,VU]; exact g) hbk (fun c z _ hz ht=>k c z (jC hz ht) hz) ?_
 cases e:U.live b with
 | none=>exact absurd e (cD iH)
 | some z =>
   refine k b z (jC e fun t ht=>?_) e
   subst ht
   simp [St.box,e] at iH
theorem Ch {x:Tx} {vl uU:AV} {K':AV->St->Prop} {Kp:AV->St->Prop} (h:PS b v au br U) (hf:Fr b U ad) (iH:ad.box b=some [v,vl,opsV]) (g:je (bV ⟨.e,0⟩) ad uU 51 3 (br.length+1) (ov (br++[x])))
 (hk:∀ bh,PS b v au (br++[x]) bh->K' (.aH []) bh):(aI (some (false,1)) (.box b 1) uU ad).wp K ad K' Kp:=by
 have hl:uU.dh=true/\ax uU=[uU]:=by
  rcases g.g with ⟨h0,_,_⟩ | ⟨τ,r1,_,_⟩
  . omega
  . rw [r1]; exact ⟨rfl,rfl⟩
 rw [dk iH]
 refine ⟨⟨hl.1,by rw [hl.2]; rfl,by simp⟩,hk _ ⟨⟨uU,by rw [a7,hl.2]; rfl,?_⟩,?_⟩⟩
 . rw [cM,List.length_singleton]
   refine ⟨?_,g.z,g.t,xG _⟩
   rcases g.g with g' | ⟨τ,r1,r2,r3⟩
   . exact .inl g'
   . exact .inr ⟨τ,r1,by rw [gY (eZ iH r2).symm]; exact r2,r3⟩
 . refine (h.fr.trans hf).trans fun c z hc hz _=>?_
   rw [dQ,if_neg hc]; exact hz
theorem ON {x:List AV} {K':AV->St->Prop} {Kp:AV->St->Prop} (hx:x.length=3) (hk:K' (.vec 1 .full x) U):(ar (some (51,3)) (some [AV.int .u8 0,AV.str [],AV.int .i64 0]) 1 false [(0,.agg x)]).wp K U K' Kp:=by
 rw [gG]
 refine ⟨by omega,?_⟩
 rw [eJ (o:=0) (s:=3) rfl]
 refine ⟨⟨rfl,hx,by simp [bO]⟩,?_⟩
 rw [ik]
 have:ax (.agg x)=x:=rfl
 rw [this]
 have e:aA (bO 1 [AV.int .u8 0,AV.str [],AV.int .i64 0]) 0 x=x:=by
  match x,hx with
  | [p,q,r],_=>rfl
 rw [e]
 exact ⟨hx,hk⟩
theorem aaP {x:List AV} {k:AV->Prop} (hx:x.length=3) (hk:k (.vec 1 .full x)):aB K (ar (some (51,3)) (some [AV.int .u8 0,AV.str [],AV.int .i64 0]) 1 false [(0,.agg x)]) k:=by
 rw [yl]
 refine ⟨by omega,?_⟩
 rw [uH (o:=0) (s:=3) rfl]
 refine ⟨⟨rfl,hx,by simp [bO]⟩,?_⟩
 rw [AP]
 have:ax (.agg x)=x:=rfl
 rw [this]
 have e:aA (bO 1 [AV.int .u8 0,AV.str [],AV.int .i64 0]) 0 x=x:=by
  match x,hx with
  | [p,q,r],_=>rfl
 rw [e]
 exact ⟨hx,hk⟩
theorem PS.ld (h:PS b v au br U):∃ vl,U.box b=some [v,vl,opsV]:=by
 obtain ⟨⟨vl,h1,_⟩,_⟩:=h
 exact ⟨vl,h1⟩
theorem Vc {s:aG} {R:cY->St->Prop} (h:PS b v au br U) (hb:br.length <= NT) (hk:∀ ad,PS b v au (br++[eC s]) ad->R (.ret (.aH [])) ad):ae K 232 [.box b 0,.str s] U R:=by
 refine SL ?_
 unfold SK
 obtain ⟨vl,iH⟩:=h.ld
 simp only [bN,aj]
 refine iz (eO iH rfl ?_)
 refine pM [.int .u8 1,.str s,.int .i64 0] rfl ?_
 refine ON rfl (EH (x:=eC s) h hb rfl iH fun ad uU g yP f _=>?_)
 refine iz (Ch h f yP g fun bh h2=>al.mk (hk _ h2))
theorem OY:∀ (f n:Nat),n < 10 ^ f->0 < f->Lib.decDigits n=kZ f n
 | 0,n,h,h0=>by omega
 | f+1,n,h,_=>by
   rw [Lib.decDigits,kZ]
   by_cases h9:n < 10
   . rw [dif_pos h9,if_pos h9]
   . rw [dif_neg h9,if_neg h9]
     have hf:0 < f:=by
      cases f with
      | zero=>simp at h; omega
      | succ f=>omega
     rw [OY f (n / 10) (by rw [Nat.pow_succ] at h; omega) hf]
theorem Qa {n:Int} (h:dH n=true):Lib.itoa n=mK n:=by
 have hn:=of_decide_eq_true h
 have hp:(1000000:Nat) < 10 ^ 20:=by decide
 unfold Lib.itoa mK
 rw [if_neg (by omega),OY 20 _ (by omega) (by omega)]
theorem N2 {n:Int} {R:cY->St->Prop} (hn:dH n=true) (h:PS b v au br U) (hb:br.length <= NT) (hk:∀ ad,PS b v au (br++[iI n]) ad->R (.ret (.aH [])) ad):ae K 234 [.box b 0,.int .i64 n] U R:=by
 refine SP ?_
 unfold SO
 obtain ⟨vl,iH⟩:=h.ld
 have Fv:=of_decide_eq_true hn
 simp only [bN,aJ]
 refine kN (fO iH rfl (oN (FN n (by omega) (by omega)) ?_))
 rw [Qa hn]
 refine aaN [.int .u8 2,.str (mK n),.int .i64 0] rfl ?_
 refine aaP rfl (EH (x:=iI n) h hb rfl iH fun ad uU g yP f o6=>⟨fun c hc=>?_,?_⟩)
 . simp only [eM,gD,cJ,List.not_mem_nil,or_false] at hc
   subst hc
   exact o6
 . refine kN (Ch h f yP g fun bh h2=>al.mk (hk _ h2))
theorem J1 {c:UInt8} {s:aG}:az (c::s)=(if 97 <= c.toNat/\c.toNat <= 122 then 3 else 4,c::s):=by
 unfold az lT
 simp only [ee]
theorem Ve {ws:List aG} {cp:mg} {R:cY->St->Prop} (Bv:∀ w ∈ ws,w ≠ []) (hl:ws.length <= 1000) (h:PS b v au br U) (hb:(br++ws.map az).length <= NT) (hk:∀ ad,PS b v au (br++ws.map az) ad->R (.ret (.aH [])) ad):ae K 231 [.box b 0,.vec ws.length cp (ws.map .str)] U R:=by
 refine SJ ?_
 unfold SI
 rw [show cE (some false) (.vec ws.length cp (ws.map .str))=.val (.int .i64 ws.length) from rfl,aj]
 refine ⟨fun m w0 w7 w8 w9 ad=>∃ i:Nat,m=ws.length - i/\i <= ws.length/\w0=.box b 0/\w7=.vec ws.length cp (ws.map .str)/\w8=.int .i64 ws.length/\w9=.int .i64 (i:Nat)/\PS b v au (br++(ws.take i).map az) ad,⟨_,0,rfl,by omega,rfl,rfl,rfl,rfl,by simpa using h⟩,?_⟩
 rintro m w0 w7 w8 w9 aR ⟨i,rfl,hi,rfl,rfl,rfl,rfl,h1⟩
 rw [cq,aj]
 refine iv (fun aQ=>?_) fun lI=>?_
 . have aQ:i < ws.length:=by omega
   obtain ⟨w,hw⟩:∃ w,ws[i]=w:=⟨_,rfl⟩
   have hx:ws[i]?=some w:=by simp [aQ,hw]
   have cr:=Bv w (gr hx)
   obtain ⟨c,s,rfl⟩:∃ c s,w=c::s:=by
    cases w with
    | nil=>exact absurd rfl cr
    | cons c s=>exact ⟨c,s,rfl⟩
   have hd:(ws.map AV.str).drop i=.str (c::s)::(ws.map AV.str).drop (i+1):=by
    rw [ib (by simpa using aQ)]; simp [hw]
   rw [Cz,jH,Nat.mul_one,hd]
   refine ⟨by omega,?_⟩
   rw [oH,bC]
   intro j hj
   have tail:∀ k:Int,k=((az (c::s)).1:Nat)->j (.box b 0) (.str (c::s)) (.int .u8 k) (.vec ws.length cp (ws.map .str)) (.int .i64 ws.length) (.int .i64 (i:Nat)) aR:=by
    intro k Bn
    refine hj _ _ _ _ _ _ _ ?_
    obtain ⟨vl,iH⟩:=h1.ld
    simp only [bN,aj]
    refine iz (eO iH rfl ?_)
    refine pM [.int .u8 k,.str (c::s),.int .i64 0] rfl ?_
    have Bh:(br++(ws.take i).map az).length <= NT:=by simp at hb ⊢; omega
    refine ON rfl (EH (x:=az (c::s)) h1 Bh (by rw [Bn]; rfl) iH fun ad uU g yP f _=>?_)
    refine iz (Ch h1 f yP g fun bh h2=>?_)
    rw [dO]
    refine ⟨bK (by omega) (by omega),ws.length - (i+1),by omega,i+1,rfl,by omega,rfl,rfl,rfl,by simp,?_⟩
    have e:(ws.take (i+1)).map az=(ws.take i).map az++[az (c::s)]:=by rw [sx,hx]; simp
    rw [e,<- gi]; exact h2
   rw [yE]
   refine ⟨by simp,?_⟩
   simp only [Int.toNat_zero,List.getD_cons_zero,iq,aj,bj]
   by_cases h97:(97:Int) <= (c.toNat:Int)
   . simp only [h97,dZ,iJ,aP,cI,aJ]
     rw [G8]
     refine ⟨by simp,?_⟩
     simp only [Int.toNat_zero,List.getD_cons_zero,lq,aJ,aM,if_true,aj]
     refine iv (fun afa=>tail 3 ?_) fun afa=>tail 4 ?_
     . rw [J1,if_pos (by omega)]; rfl
     . rw [J1,if_neg (by omega)]; rfl
   . simp only [h97,eX,show (false == true)=false from rfl,aP,cC,aM,bQ,if_false,aj]
     refine eF (tail 4 ?_)
     rw [J1,if_neg (by omega)]; rfl
 . have hi:i=ws.length:=by omega
   subst hi
   rw [tq] at h1
   exact al.mk (hk _ h1)
end
end Go.Rip
namespace Go.Rip
open Go.Proofs Go.RowKit
theorem FX {k:Int} (h:cj k=true):ry k=(bJ k:Nat):=by
 have h:=of_decide_eq_true h
 have key:∀ n:Fin 26,ry ((n.val:Int)+9)=(bJ ((n.val:Int)+9):Nat):=by decide
 have:=key ⟨(k - 9).toNat,by omega⟩
 have e:(((k - 9).toNat:Int)+9)=k:=by omega
 simp only [e] at this
 exact this
def qv (v:AV) (n:Nat) (t:Tre):Prop:=∀ (b:Nat) (au U:St) (br:List Tx) (R:cY->St->Prop),PS b v au br U->(br++t.pr).length <= NT->(∀ ad,PS b v au (br++t.pr) ad->R (.ret (.aH [])) ad)->ae K 123 [.box b 0,.int .i64 (n:Nat)] U R
section
variable {b n:Nat} {U au aR ad:St} {v:AV} {br l rest:List Tx} {L:List Nd} {t:Tre}
theorem cV {w:aG} {K':AV->St->Prop} {Kp:AV->St->Prop} (h:K' (.vec [w].length .full ([w].map .str)) U):(ar (some (9,1)) (some [AV.str []]) 1 false [(0,(AV.str w))]).wp K U K' Kp:=acH rfl rfl rfl h
theorem pw {w u:aG} {K':AV->St->Prop} {Kp:AV->St->Prop} (h:K' (.vec [w,u].length .full ([w,u].map .str)) U):(ar (some (9,1)) (some [AV.str []]) 2 false [(0,(AV.str w)),(1,(AV.str u))]).wp K U K' Kp:=acI rfl rfl rfl rfl h
theorem KP {w u z:aG} {K':AV->St->Prop} {Kp:AV->St->Prop} (h:K' (.vec [w,u,z].length .full ([w,u,z].map .str)) U):(ar (some (9,1)) (some [AV.str []]) 3 false [(0,(AV.str w)),(1,(AV.str u)),(2,(AV.str z))]).wp K U K' Kp:=by
 rw [gG]
 refine ⟨by omega,?_⟩
 rw [eJ (o:=0) (s:=1) rfl]
 refine ⟨⟨rfl,rfl,by simp [bO]⟩,?_⟩
 rw [eJ (o:=1) (s:=1) rfl]
 refine ⟨⟨rfl,rfl,by simp [bO,aA,ax]⟩,?_⟩
 rw [eJ (o:=2) (s:=1) rfl]
 refine ⟨⟨rfl,rfl,by simp [bO,aA,ax]⟩,?_⟩
 rw [ik]
 exact ⟨rfl,h⟩
theorem dK {ws:List aG} {rest:List Tx} {K':AV->St->Prop} {Kp:AV->St->Prop} (Bv:∀ w ∈ ws,w ≠ []) (hl:ws.length <= 1000) (h:PS b v au br U) (hb:(br++(ws.map az++rest)).length <= NT)
 (hk:∀ ad,PS b v au (br++ws.map az) ad->((br++ws.map az)++rest).length <= NT->K' (.aH []) ad):ae K 231 [.box b 0,.vec ws.length .full (ws.map .str)] U (ag K' Kp) :=
 Ve Bv hl h (by simp at hb ⊢; omega) fun ad h'=>hk ad h' (by simpa using hb)
theorem nH {s:aG} {rest:List Tx} {K':AV->St->Prop} {Kp:AV->St->Prop} (h:PS b v au br U) (hb:(br++(eC s::rest)).length <= NT) (hk:∀ ad,PS b v au (br++[eC s]) ad->((br++[eC s])++rest).length <= NT->K' (.aH []) ad):ae K 232 [.box b 0,.str s] U (ag K' Kp) :=
 Vc h (by simp at hb; omega) fun ad h'=>hk ad h' (by simpa using hb)
theorem qY {m:Int} {rest:List Tx} {K':AV->St->Prop} {Kp:AV->St->Prop} (hm:dH m=true) (h:PS b v au br U) (hb:(br++(iI m::rest)).length <= NT) (hk:∀ ad,PS b v au (br++[iI m]) ad->((br++[iI m])++rest).length <= NT->K' (.aH []) ad):ae K 234 [.box b 0,.int .i64 m] U (ag K' Kp) :=
 N2 hm h (by simp at hb; omega) fun ad h'=>hk ad h' (by simpa using hb)
theorem sC {rest:List Tx} {K':AV->St->Prop} {Kp:AV->St->Prop} (g:qv v n t) (h:PS b v au br U) (hb:(br++(t.pr++rest)).length <= NT) (hk:∀ ad,PS b v au (br++t.pr) ad->((br++t.pr)++rest).length <= NT->K' (.aH []) ad):ae K 123 [.box b 0,.int .i64 (n:Nat)] U (ag K' Kp) :=
 g _ _ _ _ _ h (by simp at hb ⊢; omega) fun ad h'=>hk ad h' (by simpa using hb)
theorem YY {x:Nd} {c:AV} {o:Nat} (hv:eP v L.length (cF L)) (hx:L[n]?=some x) (hc:(dY x)[o]?=some c) (h:PS b v au br U) {K':AV->St->Prop} {Kp:AV->St->Prop} (hk:K' c U) :
 (aV (.box b 0)).wp K U (fun v8 U=>(af (some 0) v8).wp K U (fun v9 U=>(af (some 0) v9).wp K U (fun v10 U=>(af (some 0) v10).wp K U (fun v11 U=>(ak (some (false,1)) v11 U).wp K U (fun v12 U =>
   (aO (some (43,6)) none v12 (.int .i64 (n:Nat))).wp K U (fun cG U=>(af (some o) cG).wp K U (fun cb U=>(ak (some (false,1)) cb U).wp K U K' Kp) Kp) Kp) Kp) Kp) Kp) Kp) Kp:=by
 obtain ⟨vl,iH⟩:=h.ld
 simp only [bN,aj]
 exact iz (iz (iz (eO iH rfl (V7 (hv.abC (U:=U)) hx hc hk))))
theorem Zd {least:Nat} {x:Nd} {R:cY->St->Prop} (hv:eP v L.length (cF L)) (hx:L[n]?=some x) (uy:x.kind=t.kind) (ht:cj t.kind=true) (g:qv v n t) (h:PS b v au br U) (hb:(br++dL t.kind least t.pr).length <= NT)
 (hk:∀ ad,PS b v au (br++dL t.kind least t.pr) ad->R (.ret (.aH [])) ad):ae K 235 [.box b 0,.int .i64 (n:Nat),.int .i64 (least:Nat)] U R:=by
 refine SR ?_
 unfold SQ
 refine YY hv hx (show (dY x)[0]?=some (.int .u8 x.kind) from rfl) h ?_
 obtain ⟨vl,iH⟩:=h.ld
 refine zG (l:=[]) iH ?_
 rw [bE,uy,FX ht,iq,aj]
 refine iv (fun lI=>?_) fun aQ=>?_
 . have e:dL t.kind least t.pr=t.pr:=by unfold dL; rw [if_pos (by omega)]
   rw [e] at hb hk
   exact g _ _ _ _ _ h hb fun ad h'=>al.mk (hk ad h')
 . have e:dL t.kind least t.pr=[cB].map az++(t.pr++[cg].map az):=by unfold dL; rw [if_neg (by omega)]; rfl
   rw [e] at hb hk
   refine cV (dK (by decide) (by decide) h hb fun aR h1 jM=>?_)
   refine sC g h1 jM fun bh h2 iW=>?_
   refine cV (dK (rest:=[]) (by decide) (by decide) h2 (by simpa using iW) fun bW h3 _=>al.mk (hk bW ?_))
   simpa using h3
theorem xh {least:Nat} {x:Nd} {rest:List Tx} {K':AV->St->Prop} {Kp:AV->St->Prop} (hv:eP v L.length (cF L)) (hx:L[n]?=some x) (uy:x.kind=t.kind) (ht:cj t.kind=true) (g:qv v n t) (h:PS b v au br U) (hb:(br++(dL t.kind least t.pr++rest)).length <= NT)
 (hk:∀ ad,PS b v au (br++dL t.kind least t.pr) ad->((br++dL t.kind least t.pr)++rest).length <= NT->K' (.aH []) ad):ae K 235 [.box b 0,.int .i64 (n:Nat),.int .i64 (least:Nat)] U (ag K' Kp) :=
 Zd hv hx uy ht g h (by simp at hb ⊢; omega) fun ad h'=>hk ad h' (by simpa using hb)
theorem Ac (w:aG) (m:List Tx):∀ {ls:List (List Tx)},ls ≠ []->cX w (ls++[m])=cX w ls++az w::m
 | [],h=>absurd rfl h
 | l::ls,_=>by rw [gE,nV,nV]; simp
theorem QU (w:aG) (ls:List (List Tx)) (j:Nat):(cX w (ls.take j)).length <= (cX w ls).length:=by
 cases ls with
 | nil=>simp
 | cons l ls =>
   cases j with
   | zero=>simp [cX]
   | succ j =>
     rw [List.take_succ_cons,nV,nV,cM,cM]
     have:(List.flatMap (fun m=>az w::m) (ls.take j)).length <= (List.flatMap (fun m=>az w::m) ls).length:=by
      conv=>rhs; rw [<- List.take_append_drop j ls,List.flatMap_append,cM]
      omega
     omega
theorem lC {vk:AV} {ks:List Nat} {i k e:Nat} {U:St} {K':AV->St->Prop} {Kp:AV->St->Prop} (hv:eP vk ks.length (jg ks)) (hx:ks[i]?=some k) (h:K' (.int .i64 (k:Nat)) U) :
 (aO (some (e,1)) none vk (.int .i64 (i:Nat))).wp K U (fun p τ=>(ak (some (false,1)) p τ).wp K τ K' Kp) Kp:=by
 have aQ:=(dC.1 hx).1
 obtain ⟨r,hr⟩:=ints_at hv hx
 rw [hr,wp_cond,aj,oH,bC]
 exact ⟨by omega,h⟩
theorem Yy {vk:AV} {ks:List Nat} {ts:List Tre} {R:cY->St->Prop} (dG:eP vk ks.length (jg ks)) (hlen:ks.length=ts.length) (hl:ks.length <= 100000) (hg:∀ (i n:Nat) (t:Tre),ks[i]?=some n->ts[i]?=some t->qv v n t) (h:PS b v au br U)
 (hb:(br++cX cw (ts.map Tre.pr)).length <= NT) (hk:∀ ad,PS b v au (br++cX cw (ts.map Tre.pr)) ad->R (.ret (.aH [])) ad):ae K 233 [.box b 0,vk] U R:=by
 refine SN ?_
 unfold SM
 rw [dG.len,aj]
 refine ⟨fun m w0 w6 w7 w8 ad=>∃ i:Nat,m=ks.length - i/\i <= ks.length/\w0=.box b 0/\w6=vk/\w7=.int .i64 ks.length/\w8=.int .i64 (i:Nat)/\PS b v au (br++cX cw ((ts.map Tre.pr).take i)) ad,⟨_,0,rfl,by omega,rfl,rfl,rfl,rfl,by simpa [cX] using h⟩,?_⟩
 rintro m w0 w6 w7 w8 aR ⟨i,rfl,hi,rfl,rfl,rfl,rfl,h1⟩
 rw [cq,aj]
 refine iv (fun aQ=>?_) fun lI=>?_
 . have aQ:i < ks.length:=by omega
   obtain ⟨n,hn⟩:∃ n,ks[i]?=some n:=⟨ks[i],by simp [aQ]⟩
   obtain ⟨t,ht⟩:∃ t,ts[i]?=some t:=⟨ts[i]'(by omega),by simp [show i < ts.length by omega]⟩
   have g:=hg i n t hn ht
   have qQ:(ts.map Tre.pr)[i]?=some t.pr:=by simp [ht]
   have pN:(ts.map Tre.pr).take (i+1)=(ts.map Tre.pr).take i++[t.pr]:=by rw [sx,qQ]; rfl
   have hle:=QU cw (ts.map Tre.pr) (i+1)
   have fC:=hb
   rw [cM] at fC
   refine lC dG hn ?_
   intro j hj
   have tail:∀ (tk:List Tx) (ad:St),PS b v au tk ad->tk++t.pr=br++cX cw ((ts.map Tre.pr).take (i+1))->j (.box b 0) (.int .i64 (n:Nat)) w6 (.int .i64 ks.length) (.int .i64 (i:Nat)) ad:=by
    intro tk ad h' e
    refine hj _ _ _ _ _ _ ?_
    refine g _ _ _ _ _ h' (by rw [e,cM]; omega) fun bh h2=>?_
    rw [bE,dO]
    exact ⟨bK (by omega) (by omega),ks.length - (i+1),by omega,i+1,rfl,by omega,rfl,rfl,rfl,by simp,by rw [<- e]; exact h2⟩
   rw [eQ,aj]
   refine iv (fun wM=>?_) fun hng=>?_
   . have cr:(ts.map Tre.pr).take i ≠ []:=fun e=>by
      have:=congrArg List.length e
      rw [List.length_take,List.length_map,ko] at this; omega
     have yV:=Ac cw t.pr cr
     rw [pN] at hle tail
     rw [yV] at hle tail
     refine cV (dK (ws:=[cw]) (rest:=t.pr) (by decide) (by decide) h1 (by simp at hb hle ⊢; omega) fun bh h2 _=>?_)
     exact tail _ bh h2 (by simp)
   . have zw:i=0:=by omega
     subst zw
     exact tail _ aR h1 (by rw [pN]; simp [cX])
 . have hi:i=ks.length:=by omega
   subst hi
   rw [qD (by simp; omega)] at h1
   exact al.mk (hk _ h1)
def dN:List aG->List Tre->List Tx
 | w::ws,t::ts=>az w::(dL t.kind 1 t.pr++dN ws ts)
 | _,_=>[]
theorem wa:∀ (i:Nat) (ws:List aG) (ts:List Tre),dN ws ts=dN (ws.take i) (ts.take i)++dN (ws.drop i) (ts.drop i)
 | 0,ws,ts=>by simp [dN]
 | i+1,[],ts=>by simp [dN]
 | i+1,w::ws,[]=>by simp [dN]
 | i+1,w::ws,t::ts=>by
   rw [List.take_succ_cons,List.take_succ_cons,List.drop_succ_cons,List.drop_succ_cons,dN,dN,wa i ws ts]; simp
theorem QG {vk:AV} {ks:List Nat} {ts:List Tre} {ws:List aG} {R:cY->St->Prop} (hv:eP v L.length (cF L)) (dG:eP vk ks.length (jg ks)) (hlen:ks.length=ts.length) (hwl:ws.length=ts.length) (hl:ks.length <= 100000) (Bv:∀ w ∈ ws,w ≠ [])
 (hg:∀ (i n:Nat) (t:Tre),ks[i]?=some n->ts[i]?=some t->qv v n t/\cj t.kind=true/\∃ x,L[n]?=some x/\x.kind=t.kind) (h:PS b v au br U)
 (hb:(br++dN ws ts).length <= NT) (hk:∀ ad,PS b v au (br++dN ws ts) ad->R (.ret (.aH [])) ad):ae K 237 [.box b 0,vk,.vec ws.length .full (ws.map .str)] U R:=by
 refine SW ?_
 unfold SV
 rw [dG.len,aj]
 refine ⟨fun m w0 w2 w8 w9 GC ad=>∃ i:Nat,m=ks.length - i/\i <= ks.length/\w0=.box b 0/\w2=.vec ws.length .full (ws.map .str)/\w8=vk/\w9=.int .i64 ks.length/\GC=.int .i64 (i:Nat)/\PS b v au (br++dN (ws.take i) (ts.take i)) ad,⟨_,0,rfl,by omega,rfl,rfl,rfl,rfl,rfl,by simpa [dN] using h⟩,?_⟩
 rintro m w0 w2 w8 w9 GC aR ⟨i,rfl,hi,rfl,rfl,rfl,rfl,rfl,h1⟩
 rw [cq,aj]
 refine iv (fun aQ=>?_) fun lI=>?_
 . have aQ:i < ks.length:=by omega
   obtain ⟨n,hn⟩:∃ n,ks[i]?=some n:=⟨ks[i],by simp [aQ]⟩
   obtain ⟨t,ht⟩:∃ t,ts[i]?=some t:=⟨ts[i]'(by omega),by simp [show i < ts.length by omega]⟩
   obtain ⟨w,hw⟩:∃ w,ws[i]?=some w:=⟨ws[i]'(by omega),by simp [show i < ws.length by omega]⟩
   obtain ⟨g,gt,x,hx,uy⟩:=hg i n t hn ht
   have hwn:=Bv w (gr hw)
   have e1:=wa i ws ts
   have ed:dN (ws.drop i) (ts.drop i)=az w::(dL t.kind 1 t.pr++dN (ws.drop (i+1)) (ts.drop (i+1))):=by
    rw [ib (show i < ws.length by omega),ib (show i < ts.length by omega),dN]
    have a1:ws[i]'(by omega)=w:=(dC.1 hw).2
    have a2:ts[i]'(by omega)=t:=(dC.1 ht).2
    rw [a1,a2]
   have e2:=wa (i+1) ws ts
   rw [e1,ed] at hb
   have e3:dN (ws.take (i+1)) (ts.take (i+1))=dN (ws.take i) (ts.take i)++az w::dL t.kind 1 t.pr:=by
    have:dN (ws.take (i+1)) (ts.take (i+1))++dN (ws.drop (i+1)) (ts.drop (i+1))=(dN (ws.take i) (ts.take i)++az w::dL t.kind 1 t.pr)++dN (ws.drop (i+1)) (ts.drop (i+1)):=by
     rw [<- e2,e1,ed]; simp
    exact List.append_cancel_right this
   refine lC dG hn ?_
   have hd:(ws.map AV.str).drop i=.str w::(ws.map AV.str).drop (i+1):=by
    rw [ib (by simp; omega)]
    have a1:ws[i]'(by omega)=w:=(dC.1 hw).2
    simp [a1]
   rw [Cz,jH,Nat.mul_one,hd]
   refine ⟨by omega,?_⟩
   rw [oH,bC]
   refine cV (dK (ws:=[w]) (rest:=dL t.kind 1 t.pr++dN (ws.drop (i+1)) (ts.drop (i+1))) (fun u hu=>by rw [jX] at hu; subst hu; exact hwn) (by simp) h1 (by simpa using hb) fun bh h2 iW=>?_)
   refine xh (least:=1) hv hx uy gt g h2 iW fun bW h3 _=>?_
   rw [dO]
   refine ⟨bK (by omega) (by omega),ks.length - (i+1),by omega,i+1,rfl,by omega,rfl,rfl,rfl,rfl,by simp,?_⟩
   rw [e3]
   simpa using h3
 . have hi:i=ks.length:=by omega
   subst hi
   rw [qD (by omega),qD (by omega)] at h1
   exact al.mk (hk _ h1)
end
end Go.Rip
namespace Go.Rip
open Go.Proofs Go.RowKit
section
variable {b n:Nat} {U au aR ad:St} {v:AV} {br l rest:List Tx} {L:List Nd} {t:Tre}
structure fG (v:AV) (L:List Nd) (pl:List Nat) (ks:List Tre):Prop where
 len:pl.length=ks.length
 nd:∀ (i n:Nat) (t:Tre),pl[i]?=some n->ks[i]?=some t->qv v n t/\∃ x,L[n]?=some x/\x.kind=t.kind
def zb (t:Tre) (z:Int):List AV:=[.int .u8 t.kind,.str t.text,.int .i64 t.n,.int .i64 t.m,.int .i64 t.at_,.int .i64 z]
def jG (f:FuncId) (v:AV) (t:Tre) (pl:List Nat):Prop:=∀ (b:Nat) (au U:St) (br:List Tx) (R:cY->St->Prop) (z:Int) (vk:AV),eP vk pl.length (jg pl)->PS b v au br U->(br++t.pr).length <= NT->(∀ ad,PS b v au (br++t.pr) ad->R (.ret (.aH [])) ad)->ae K f [.box b 0,.agg (zb t z),vk] U R
theorem fG.one {pl:List Nat} {A:Tre} (h:fG v L pl [A]):∃ p,pl=[p]/\qv v p A/\∃ x,L[p]?=some x/\x.kind=A.kind:=by
 match pl,h.len with
 | [p],_=>exact ⟨p,rfl,h.nd 0 p A rfl rfl⟩
theorem fG.two {pl:List Nat} {A B:Tre} (h:fG v L pl [A,B]):∃ p q,pl=[p,q]/\(qv v p A/\∃ x,L[p]?=some x/\x.kind=A.kind)/\qv v q B/\∃ x,L[q]?=some x/\x.kind=B.kind:=by
 match pl,h.len with
 | [p,q],_=>exact ⟨p,q,rfl,h.nd 0 p A rfl rfl,h.nd 1 q B rfl rfl⟩
theorem fG.three {pl:List Nat} {A B C:Tre} (h:fG v L pl [A,B,C]):∃ p q r,pl=[p,q,r]/\(qv v p A/\∃ x,L[p]?=some x/\x.kind=A.kind)/\(qv v q B/\∃ x,L[q]?=some x/\x.kind=B.kind)/\qv v r C/\∃ x,L[r]?=some x/\x.kind=C.kind:=by
 match pl,h.len with
 | [p,q,r],_=>exact ⟨p,q,r,rfl,h.nd 0 p A rfl rfl,h.nd 1 q B rfl rfl,h.nd 2 r C rfl rfl⟩
theorem fG.app {pl:List Nat} {ks ks':List Tre} (h:fG v L pl (ks++ks')):fG v L (pl.take ks.length) ks/\fG v L (pl.drop ks.length) ks':=by
 have hl:=h.len
 rw [cM] at hl
 refine ⟨⟨by rw [List.length_take]; omega,fun i n t h1 h2=>?_⟩,⟨by rw [List.length_drop]; omega,fun i n t h1 h2=>?_⟩⟩
 . have hi:=(dC.1 h2).1
   rw [List.getElem?_take,if_pos hi] at h1
   exact h.nd i n t h1 (by rw [wc hi]; exact h2)
 . rw [List.getElem?_drop] at h1
   exact h.nd _ n t h1 (by rw [List.getElem?_append_right (by omega),Nat.add_sub_cancel_left]; exact h2)
theorem fW {C:List AV} {K':AV->St->Prop} {Kp:AV->St->Prop} (h:PS b v au br U) (hk:∀ b4 aR,b4 ≠ b->aR.box b4=some C->PS b v aR br aR->(∀ l ad,PS b v aR l ad->PS b v au l ad)->K' (.box b4 0) aR):(fZ (.agg C)).wp K U K' Kp:=by
 rw [hU rfl]
 intro b4 iw
 obtain ⟨vl,iH⟩:=h.ld
 have h1:=h.mono (bB iw (x:=.box (ax (.agg C))))
 exact hk b4 _ (iw.bX iH).symm aK h1.DE fun l ad h'=>h1.app h'
theorem gO {b4 o:Nat} {C:List AV} {c:AV} {tk:List Tx} {K':AV->St->Prop} {Kp:AV->St->Prop} (n4:b4 ≠ b) (m4:aR.box b4=some C) (h':PS b v aR tk ad) (hc:C[o]?=some c) (k:K' c ad) :
 (af (some o) (.box b4 0)).wp K ad (fun v8 U=>(ak (some (false,1)) v8 U).wp K U K' Kp) Kp:=by
 have aQ:=(dC.1 hc).1
 have hd:C.drop (0+o)=c::C.drop (o+1):=by
  rw [df,ib aQ,(dC.1 hc).2]
 exact iz (eO (h'.fr.bg n4 m4) hd k)
theorem fS {bt:BT} {l:Bool} {k:IntKind} {p q:Int} {A B:AV->St->Prop} {Kp:AV->St->Prop} (h:p ≠ q) (hk:B (.bool false) U):(aw .eql bt l (.int k p) (.int k q)).wp K U (fun v U=>av v (A v U) (B v U)) Kp:=by
 rw [bu,aj,decide_eq_false h]
 exact eF hk
theorem pP {bt:BT} {l:Bool} {k:IntKind} {p q:Int} {A B:AV->St->Prop} {Kp:AV->St->Prop} (h:p=q) (hk:A (.bool true) U):(aw .eql bt l (.int k p) (.int k q)).wp K U (fun v U=>av v (A v U) (B v U)) Kp:=by
 rw [bu,aj,decide_eq_true h]
 exact eH hk
theorem kr {vk:AV} {pl:List Nat} {ts:List Tre} {ws:List aG} {rest:List Tx} {K':AV->St->Prop} {Kp:AV->St->Prop} (hv:eP v L.length (cF L)) (dG:eP vk pl.length (jg pl)) (hp:fG v L pl ts) (htm:∀ t ∈ ts,cj t.kind=true) (hwl:ws.length=ts.length) (hl:ts.length <= 1000) (Bv:∀ w ∈ ws,w ≠ [])
 (h:PS b v au br U) (hb:(br++(dN ws ts++rest)).length <= NT) (hk:∀ ad,PS b v au (br++dN ws ts) ad->((br++dN ws ts)++rest).length <= NT->K' (.aH []) ad):ae K 237 [.box b 0,vk,.vec ws.length .full (ws.map .str)] U (ag K' Kp) :=
 QG hv dG hp.len hwl (by have:=hp.len; omega) Bv (fun i n t h1 h2=>⟨(hp.nd i n t h1 h2).1,htm t (gr h2),(hp.nd i n t h1 h2).2⟩) h (by simp at hb ⊢; omega) fun ad h'=>hk ad h' (by simpa using hb)
theorem AS {vk:AV} {pl:List Nat} {ts:List Tre} {rest:List Tx} {K':AV->St->Prop} {Kp:AV->St->Prop} (dG:eP vk pl.length (jg pl)) (hp:fG v L pl ts) (hl:ts.length <= 1000) (h:PS b v au br U)
 (hb:(br++(cX cw (ts.map Tre.pr)++rest)).length <= NT) (hk:∀ ad,PS b v au (br++cX cw (ts.map Tre.pr)) ad->((br++cX cw (ts.map Tre.pr))++rest).length <= NT->K' (.aH []) ad):ae K 233 [.box b 0,vk] U (ag K' Kp) :=
 Yy dG hp.len (by have:=hp.len; omega) (fun i n t h1 h2=>(hp.nd i n t h1 h2).1) h (by simp at hb ⊢; omega) fun ad h'=>hk ad h' (by simpa using hb)
theorem oo {vk:AV} {pl:List Nat} (hv:eP vk pl.length (jg pl)) (h0:pl ≠ []) {i j:Nat} (fR:i <= j) (hj:j <= pl.length) {hi:Option AV} (hhi:ej pl.length hi=some (j:Int)) {lo:Option AV} (hlo:ej 0 lo=some (i:Int)) {K':AV->St->Prop} {Kp:AV->St->Prop}
 (hk:∀ c,K' (.vec ((pl.take j).drop i).length c (jg ((pl.take j).drop i))) U):(fI false (some (3,1)) vk lo hi).wp K U K' Kp:=by
 rcases hv with ⟨h1,_,_⟩ | ⟨c,rfl⟩
 . exact absurd (sw.1 h1) h0
 . rw [Af,hhi,hlo]
   simp only [jH,Nat.mul_one]
   have:j - i=((pl.take j).drop i).length:=by simp; omega
   rw [this,wp_cond,aj]
   have e:((jg pl).take j).drop i=jg ((pl.take j).drop i):=by simp [jg,List.map_take,List.map_drop]
   rw [e]
   exact ⟨by omega,hk _⟩
section
variable {x:aG} {nn m a:Int} {pl:List Nat}
theorem Yb {A B C:Tre} (hv:eP v L.length (cF L)) (hp:fG v L pl [A,B,C]) (hA:cj A.kind=true) (hB:cj B.kind=true) (hC:cj C.kind=true):jG 184 v (.mk 10 x nn m a [A,B,C]) pl:=by
 intro b au U br R z vk dG h hb hk
 have e:(Tre.mk 10 x nn m a [A,B,C]).pr=dN [ox,nP,eG] [A,B,C]++[]:=by rw [Tre.cu]; simp [aU,dN]
 rw [e] at hb
 refine pt ?_
 unfold s9
 refine fW h fun b4 aR n4 m4 h1 up=>gO n4 m4 h1 (show _=some (.int .u8 10) from rfl) ?_
 refine fS (by decide) (pP rfl ?_)
 refine KP (kr hv dG hp (by simp [hA,hB,hC]) rfl (by simp) (by decide) h1 hb fun bh h2 _=>al.mk (hk _ (up _ _ ?_)))
 rw [e,gD]; exact h2
theorem HQ {k:Int} {w u:aG} {A B:Tre} (Fu:(k,w,u) ∈ [((11:Int),fX,rP),(15,gH,eG)]) (hv:eP v L.length (cF L)) (hp:fG v L pl [A,B]) (hA:cj A.kind=true) (hB:cj B.kind=true):jG 184 v (.mk k x nn m a [A,B]) pl:=by
 intro b au U br R z vk dG h hb hk
 have Bv:∀ y ∈ [w,u],y ≠ []:=by
  simp only [cJ,List.not_mem_nil,or_false,gL] at Fu
  rcases Fu with ⟨_,rfl,rfl⟩ | ⟨_,rfl,rfl⟩ <;> decide
 have e:(Tre.mk k x nn m a [A,B]).pr=dN [w,u] [A,B]++[]:=by
  rw [Tre.cu]
  simp only [cJ,List.not_mem_nil,or_false,gL] at Fu
  rcases Fu with ⟨rfl,rfl,rfl⟩ | ⟨rfl,rfl,rfl⟩ <;> simp [aU,dN]
 rw [e] at hb
 refine pt ?_
 unfold s9
 refine fW h fun b4 aR n4 m4 h1 up=>gO n4 m4 h1 (show _=some (.int .u8 k) from rfl) ?_
 have fin:=fun (bh:St) (h2:PS b v aR (br++dN [w,u] [A,B]) bh)=>hk bh (up _ _ (by rw [e,gD]; exact h2))
 simp only [cJ,List.not_mem_nil,or_false,gL] at Fu
 rcases Fu with ⟨rfl,rfl,rfl⟩ | ⟨rfl,rfl,rfl⟩
 . refine fS (by decide) (fS (by decide) (pP rfl ?_))
   exact pw (kr hv dG hp (by simp [hA,hB]) rfl (by simp) Bv h1 hb fun bh h2 _=>al.mk (fin _ h2))
 . refine fS (by decide) (fS (by decide) (fS (by decide) (pP rfl ?_)))
   exact pw (kr hv dG hp (by simp [hA,hB]) rfl (by simp) Bv h1 hb fun bh h2 _=>al.mk (fin _ h2))
theorem Ua {A:Tre} (hn:dH nn=true) (hm:dH m=true) (hv:eP v L.length (cF L)) (hp:fG v L pl [A]) (hA:cj A.kind=true):jG 184 v (.mk 12 x nn m a [A]) pl:=by
 intro b au U br R z vk dG h hb hk
 have e:(Tre.mk 12 x nn m a [A]).pr=[lh].map az++(eC x::([cW].map az++(iI nn::([bL].map az++(iI m::(dN [jJ] [A]++[])))))):=by rw [Tre.cu]; simp [aU,dN]
 rw [e] at hb
 refine pt ?_
 unfold s9
 refine fW h fun b4 aR n4 m4 h1 up=>gO n4 m4 h1 (show _=some (.int .u8 12) from rfl) ?_
 refine fS (by decide) (fS (by decide) (fS (by decide) (fS (by decide) (pP rfl ?_))))
 refine cV (dK (by decide) (by decide) h1 hb fun bh h2 b2=>gO n4 m4 h2 rfl ?_)
 refine nH h2 b2 fun bW h3 b3=>?_
 refine cV (dK (by decide) (by decide) h3 b3 fun cN h4 qH=>gO n4 m4 h4 rfl ?_)
 refine qY hn h4 qH fun dv h5 b5=>?_
 refine cV (dK (by decide) (by decide) h5 b5 fun nQ h6 b6=>gO n4 m4 h6 rfl ?_)
 refine qY hm h6 b6 fun jy h7 b7=>?_
 refine cV (kr hv dG hp (by simp [hA]) rfl (by simp) (by decide) h7 b7 fun vK h8 _=>al.mk (hk _ (up _ _ ?_)))
 rw [e]; simpa [Tre.text,Tre.n,Tre.m] using h8
theorem MR {A B:Tre} (hv:eP v L.length (cF L)) (hp:fG v L pl [A,B]) (hA:cj A.kind=true) (hB:cj B.kind=true):jG 184 v (.mk 13 x nn m a [A,B]) pl:=by
 intro b au U br R z vk dG h hb hk
 have e:(Tre.mk 13 x nn m a [A,B]).pr=[il].map az++(eC x::(dN [jJ,eG] [A,B]++[])):=by rw [Tre.cu]; simp [aU,dN]
 rw [e] at hb
 refine pt ?_
 unfold s9
 refine fW h fun b4 aR n4 m4 h1 up=>gO n4 m4 h1 (show _=some (.int .u8 13) from rfl) ?_
 refine fS (by decide) (fS (by decide) (fS (by decide) (fS (by decide) (fS (by decide) (pP rfl ?_)))))
 refine cV (dK (by decide) (by decide) h1 hb fun bh h2 b2=>gO n4 m4 h2 rfl ?_)
 refine nH h2 b2 fun bW h3 b3=>?_
 refine pw (kr hv dG hp (by simp [hA,hB]) rfl (by simp) (by decide) h3 b3 fun vK h8 _=>al.mk (hk _ (up _ _ ?_)))
 rw [e]; simpa [Tre.text,Tre.n,Tre.m] using h8
theorem Ub {A:Tre} (hv:eP v L.length (cF L)) (hp:fG v L pl [A]) (hA:cj A.kind=true):jG 184 v (.mk 16 x nn m a [A]) pl:=by
 intro b au U br R z vk dG h hb hk
 have e:(Tre.mk 16 x nn m a [A]).pr=eC x::(dN [bL] [A]++[]):=by rw [Tre.cu]; simp [aU,dN]
 rw [e] at hb
 refine pt ?_
 unfold s9
 refine fW h fun b4 aR n4 m4 h1 up=>gO n4 m4 h1 (show _=some (.int .u8 16) from rfl) ?_
 refine fS (by decide) (fS (by decide) (fS (by decide) (fS (by decide) (fS (by decide) (fS (by decide) (pP rfl ?_))))))
 refine gO n4 m4 h1 rfl ?_
 refine nH h1 hb fun bW h3 b3=>?_
 refine cV (kr hv dG hp (by simp [hA]) rfl (by simp) (by decide) h3 b3 fun vK h8 _=>al.mk (hk _ (up _ _ ?_)))
 rw [e]; simpa [Tre.text,Tre.n,Tre.m] using h8
theorem Kh {A:Tre} (hn:dH nn=true) (hv:eP v L.length (cF L)) (hp:fG v L pl [A]) (hA:cj A.kind=true):jG 184 v (.mk 14 x nn m a [A]) pl:=by
 intro b au U br R z vk dG h hb hk
 have e:(Tre.mk 14 x nn m a [A]).pr=[ig].map az++(eC x::([bL].map az++(iI nn::(dN [jJ] [A]++[])))):=by rw [Tre.cu]; simp [aU,dN]
 rw [e] at hb
 refine pt ?_
 unfold s9
 refine fW h fun b4 aR n4 m4 h1 up=>gO n4 m4 h1 (show _=some (.int .u8 14) from rfl) ?_
 refine fS (by decide) (fS (by decide) (fS (by decide) (fS (by decide) (fS (by decide) (fS (by decide) (fS (by decide) (pP rfl ?_)))))))
 refine cV (dK (by decide) (by decide) h1 hb fun bh h2 b2=>gO n4 m4 h2 rfl ?_)
 refine nH h2 b2 fun bW h3 b3=>?_
 refine cV (dK (by decide) (by decide) h3 b3 fun cN h4 qH=>gO n4 m4 h4 rfl ?_)
 refine qY hn h4 qH fun dv h5 b5=>?_
 refine cV (kr hv dG hp (by simp [hA]) rfl (by simp) (by decide) h5 b5 fun vK h8 _=>al.mk (hk _ (up _ _ ?_)))
 rw [e]; simpa [Tre.text,Tre.n,Tre.m] using h8
theorem Y4:∀ (A:Tre) (ts:List Tre),cX cn ((A::ts).map fun t=>dL t.kind 1 t.pr)=dL A.kind 1 A.pr++ts.flatMap fun t=>az cn::dL t.kind 1 t.pr:=by
 intro A ts
 rw [eh,nV,List.flatMap_map]
theorem Uc {A:Tre} {ts:List Tre} (CU:ts.length <= 900) (hv:eP v L.length (cF L)) (hp:fG v L pl (A::ts)) (hA:∀ t ∈ A::ts,cj t.kind=true):jG 184 v (.mk 9 x nn m a (A::ts)) pl:=by
 intro b au U br R z vk dG h hb hk
 have e:(Tre.mk 9 x nn m a (A::ts)).pr=dL A.kind 1 A.pr++ts.flatMap fun t=>az cn::dL t.kind 1 t.pr:=by
  rw [Tre.cu,<- Y4]
  simp only [aU,List.map_map]; rfl
 rw [e] at hb
 have hlen:=hp.len
 obtain ⟨p0,pr,rfl⟩:∃ p r,pl=p::r:=by
  cases pl with
  | nil=>simp at hlen
  | cons p r=>exact ⟨p,r,rfl⟩
 obtain ⟨g0,x0,hx0,afJ⟩:=hp.nd 0 p0 A rfl rfl
 have WJ:fG v L pr ts:=(fG.app (ks:=[A]) hp).2
 refine pt ?_
 unfold s9
 refine fW h fun b4 aR n4 m4 h1 up=>gO n4 m4 h1 (show _=some (.int .u8 9) from rfl) ?_
 refine pP rfl ?_
 refine lC (i:=0) dG rfl ?_
 refine xh (least:=1) hv hx0 afJ (hA A (by simp)) g0 h1 hb fun bh h2 b2=>?_
 refine oo (i:=1) (j:=(p0::pr).length) dG (by simp) (by simp) (bT _) rfl rfl fun c=>?_
 rw [tq,show (p0::pr).drop 1=pr from rfl]
 rw [show cE (some false) (AV.vec pr.length c (jg pr))=.val (.int .i64 pr.length) from rfl,aj]
 have zB:eP (AV.vec pr.length c (jg pr)) pr.length (jg pr):=.inr ⟨_,rfl⟩
 have agN:=WJ.len
 refine ⟨fun mm w0 w18 w19 w20 ad=>∃ i:Nat,mm=pr.length - i/\i <= pr.length/\w0=.box b 0/\w18=AV.vec pr.length c (jg pr)/\w19=.int .i64 pr.length/\w20=.int .i64 (i:Nat)/\PS b v aR (br++dL A.kind 1 A.pr++(ts.take i).flatMap fun t=>az cn::dL t.kind 1 t.pr) ad,⟨_,0,rfl,by omega,rfl,rfl,rfl,rfl,by simpa using h2⟩,?_⟩
 rintro mm w0 w18 w19 w20 bW ⟨i,rfl,hi,rfl,rfl,rfl,rfl,h3⟩
 rw [cq,aj]
 refine iv (fun aQ=>?_) fun lI=>?_
 . have aQ:i < pr.length:=by omega
   obtain ⟨q,hq⟩:∃ q,pr[i]?=some q:=⟨pr[i],by simp [aQ]⟩
   obtain ⟨t,ht⟩:∃ t,ts[i]?=some t:=⟨ts[i]'(by omega),by simp [show i < ts.length by omega]⟩
   obtain ⟨g,xq,hxq,afK⟩:=WJ.nd i q t hq ht
   have htm:=hA t (by simp [gr ht])
   refine lC zB hq ?_
   refine Ou rfl rfl ?_
   have e2:(ts.take (i+1)).flatMap (fun t=>az cn::dL t.kind 1 t.pr)=(ts.take i).flatMap (fun t=>az cn::dL t.kind 1 t.pr)++(dN [cn] [t]):=by
    rw [sx,ht]; simp [dN]
   have hle:((ts.take (i+1)).flatMap (fun t=>az cn::dL t.kind 1 t.pr)).length <= (ts.flatMap fun t=>az cn::dL t.kind 1 t.pr).length:=by
    conv=>rhs; rw [<- List.take_append_drop (i+1) ts,List.flatMap_append,cM]
    omega
   refine cV (kr (ts:=[t]) (rest:=[]) (pl:=[q]) hv (.inr ⟨_,rfl⟩) ⟨rfl,fun j n' t' j1 j2=>?_⟩ (by simp [htm]) rfl (by simp) (by decide) h3 ?_ fun cN h4 _=>?_)
   . match j,j1,j2 with
     | 0,j1,j2 =>
       simp at j1 j2
       subst j1 j2
       exact ⟨g,xq,hxq,afK⟩
   . rw [e2,cM] at hle
     rw [gD]
     simp only [cM] at hb b2 ⊢
     omega
   . rw [dO]
     refine ⟨bK (by omega) (by omega),pr.length - (i+1),by omega,i+1,rfl,by omega,rfl,rfl,rfl,by simp,?_⟩
     rw [e2,<- gi]; exact h4
 . have hi:i=pr.length:=by omega
   subst hi
   rw [qD (by omega)] at h3
   refine al.mk (hk _ (up _ _ ?_))
   rw [e,<- gi]; exact h3
end
end
end Go.Rip
