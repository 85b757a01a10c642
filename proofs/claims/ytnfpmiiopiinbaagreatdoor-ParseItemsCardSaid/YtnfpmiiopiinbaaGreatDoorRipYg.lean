/- Lemmas for the proof: no conditions. -/
import Derived.Test.YtnfpmiiopiinbaaGreatDoorRipZz
import Derived.Test.YtnfpmiiopiinbaaGreatDoorRipYc
import Derived.Test.YtnfpmiiopiinbaaGreatDoorRipH
import Derived.Test.YtnfpmiiopiinbaaGreatDoorRipYf
import Derived.Test.YtnfpmiiopiinbaaGreatDoorRipO
set_option linter.unusedVariables false
set_option linter.unusedSimpArgs false
set_option linter.loopingSimpArgs false
namespace Go.Rip
open Go.Proofs Go.RowKit
theorem YU:CA=opsV:=by rfl
def iU (x:Tx):List AV:=[.int .u8 x.1,.str x.2,.int .i64 0]
def lQ (l:List Tx):List AV:=l.flatMap iU
theorem H6 (a b:List Tx):lQ (a++b)=lQ a++lQ b:=by simp [lQ]
theorem Si (x:Tx):lQ [x]=iU x:=by simp [lQ]
def Fr (b:Nat) (U ad:St):Prop:=∀ c x,c ≠ b->U.live c=some x->(∀ t,x=.tok t->t.e ≠ 51)->ad.live c=some x
section
variable {b c:Nat} {U ao aP ad:St} {v:AV} {bh l rest:List Tx}
theorem Fr.refl (b:Nat) (U:St):Fr b U U:=fun _ _ _ h _=>h
theorem Fr.trans (h:Fr b U aP) (k:Fr b aP ad):Fr b U ad:=fun c x n e t=>k c x n (h c x n e t) t
theorem Fr.kr (h:cN U ad):Fr b U ad:=fun c x _ e _=>h c x e
theorem Fr.aS (h:Fr b U ad) (n:c ≠ b) {y:List AV} (k:U.box c=some y):ad.box c=some y:=by
 cases e:U.live c with
 | none=>simp [St.box,e] at k
 | some x =>
   rw [dP ((h c x n e ?_).trans e.symm)]; exact k
   intro t ht
   subst ht
   simp [St.box,e] at k
theorem Fr.loop (h:Fr b U ad) (n:c ≠ b) {L:eG} (k:U.loop c=some L):ad.loop c=some L:=by
 cases e:U.live c with
 | none=>simp [St.loop,e] at k
 | some x =>
   rw [dG ((h c x n e ?_).trans e.symm)]; exact k
   intro t ht
   subst ht
   simp [St.loop,e] at k
structure PS (b:Nat) (v:AV) (ao:St) (bh:List Tx) (U:St):Prop where
 box:∃ vl,U.box b=some [v,vl,opsV]/\eo (bC ⟨.e,0⟩) U vl 51 3 bh.length (lQ bh)
 fr:Fr b ao U
def NT:Nat:=1000000
theorem PS.mono (h:PS b v ao bh U) (e:cN U ad):PS b v ao bh ad:=by
 obtain ⟨⟨vl,h1,h2⟩,h3⟩:=h
 exact ⟨⟨vl,e.aS h1,h2.mono e⟩,h3.trans (.kr e)⟩
theorem PS.BD (h:PS b v ao bh U):PS b v U bh U:=⟨h.box,Fr.refl _ _⟩
theorem PS.app (h:PS b v ao bh U) (k:PS b v U l ad):PS b v ao l ad:=⟨k.box,h.fr.trans k.fr⟩
theorem CE {x:Tx} {y:AV} {K':AV->St->Prop} {Kp:AV->St->Prop} (h:PS b v ao bh U) (hb:bh.length <= NT) (hy:y=.vec 1 .full (iU x)) {vl:AV} (gw:U.box b=some [v,vl,opsV])
 (hk:∀ ad sM,eo (bC ⟨.e,0⟩) ad sM 51 3 (bh.length+1) (lQ (bh++[x]))->ad.box b=some [v,vl,opsV]->Fr b U ad->ad.live b=U.live b->K' sM ad):(ez (some (51,3)) false vl y U).wp K U K' Kp:=by
 obtain ⟨⟨sM,h1,h2⟩,h3⟩:=h
 rw [gw] at h1
 obtain rfl:vl=sM:=by simpa using h1
 subst hy
 unfold NT at hb
 refine BZ h2 (m:=1) (l2:=iU x) rfl rfl (by omega) (by omega) fun ad w g k=>?_
 have hX:∀ {c z},U.live c=some z->(∀ t,z=.tok t->t.e ≠ 51)->∀ n l,vl ≠ .vec n (.own c) l:=fun hz ht n l hv=>by
  rcases h2.g with ⟨_,_,h3⟩ | ⟨τ,r1,r2,_⟩
  . rw [h3] at hv; cases hv
  . rw [r1] at hv; cases hv
    unfold St.tok at r2
    rw [hz] at r2
    split at r2
    . rename_i t e; cases e; cases r2; exact ht _ rfl rfl
    . cases r2
 have hbk:=(lA h2.g k).1 gw
 refine hk ad w (by rw [H6,Si]; exact g) hbk (fun c z _ hz ht=>k c z (hX hz ht) hz) ?_
 cases e:U.live b with
 | none=>exact absurd e (bG gw)
 | some z =>
   refine k b z (hX e fun t ht=>?_) e
   subst ht
   simp [St.box,e] at gw
theorem Ad {x:Tx} {vl sM:AV} {K':AV->St->Prop} {Kp:AV->St->Prop} (h:PS b v ao bh U) (hf:Fr b U ad) (gw:ad.box b=some [v,vl,opsV]) (g:eo (bC ⟨.e,0⟩) ad sM 51 3 (bh.length+1) (lQ (bh++[x])))
 (hk:∀ aZ,PS b v ao (bh++[x]) aZ->K' (.aF []) aZ):(aJ (some (false,1)) (.box b 1) sM ad).wp K ad K' Kp:=by
 have hl:sM.cQ=true/\au sM=[sM]:=by
  rcases g.g with ⟨h0,_,_⟩ | ⟨τ,r1,_,_⟩
  . omega
  . rw [r1]; exact ⟨rfl,rfl⟩
 rw [cX gw]
 refine ⟨⟨hl.1,by rw [hl.2]; rfl,by simp⟩,hk _ ⟨⟨sM,by rw [aW,hl.2]; rfl,?_⟩,?_⟩⟩
 . rw [dh,List.length_singleton]
   refine ⟨?_,g.z,g.t,pq _⟩
   rcases g.g with g' | ⟨τ,r1,r2,r3⟩
   . exact .inl g'
   . exact .inr ⟨τ,r1,by rw [fx (dL gw r2).symm]; exact r2,r3⟩
 . refine (h.fr.trans hf).trans fun c z hc hz _=>?_
   rw [cR,if_neg hc]; exact hz
theorem Lu {x:List AV} {K':AV->St->Prop} {Kp:AV->St->Prop} (hx:x.length=3) (hk:K' (.vec 1 .full x) U):(aq (some (51,3)) (some [AV.int .u8 0,AV.str [],AV.int .i64 0]) 1 false [(0,.agg x)]).wp K U K' Kp:=by
 rw [fN]
 refine ⟨by omega,?_⟩
 rw [ek (o:=0) (s:=3) rfl]
 refine ⟨⟨rfl,hx,by simp [bF]⟩,?_⟩
 rw [gI]
 have:au (.agg x)=x:=rfl
 rw [this]
 have e:aB (bF 1 [AV.int .u8 0,AV.str [],AV.int .i64 0]) 0 x=x:=by
  match x,hx with
  | [p,q,r],_=>rfl
 rw [e]
 exact ⟨hx,hk⟩
theorem Xg {x:List AV} {k:AV->Prop} (hx:x.length=3) (hk:k (.vec 1 .full x)):ax K (aq (some (51,3)) (some [AV.int .u8 0,AV.str [],AV.int .i64 0]) 1 false [(0,.agg x)]) k:=by
 rw [vZ]
 refine ⟨by omega,?_⟩
 rw [sB (o:=0) (s:=3) rfl]
 refine ⟨⟨rfl,hx,by simp [bF]⟩,?_⟩
 rw [yQ]
 have:au (.agg x)=x:=rfl
 rw [this]
 have e:aB (bF 1 [AV.int .u8 0,AV.str [],AV.int .i64 0]) 0 x=x:=by
  match x,hx with
  | [p,q,r],_=>rfl
 rw [e]
 exact ⟨hx,hk⟩
theorem PS.ld (h:PS b v ao bh U):∃ vl,U.box b=some [v,vl,opsV]:=by
 obtain ⟨⟨vl,h1,_⟩,_⟩:=h
 exact ⟨vl,h1⟩
theorem RB {s:aQ} {R:cA->St->Prop} (h:PS b v ao bh U) (hb:bh.length <= NT) (hk:∀ ad,PS b v ao (bh++[iY s]) ad->R (.ret (.aF [])) ad):ae K 232 [.box b 0,.str s] U R:=by
 refine Pn ?_
 unfold Pm
 obtain ⟨vl,gw⟩:=h.ld
 simp only [bU,al]
 refine fV (dq gw rfl ?_)
 refine qA [.int .u8 1,.str s,.int .i64 0] rfl ?_
 refine Lu rfl (CE (x:=iY s) h hb rfl gw fun ad sM g wJ f _=>?_)
 refine fV (Ad h f wJ g fun aZ h2=>ak.mk (hk _ h2))
theorem LH:∀ (f n:Nat),n < 10 ^ f->0 < f->Lib.decDigits n=ko f n
 | 0,n,h,h0=>by omega
 | f+1,n,h,_=>by
   rw [Lib.decDigits,ko]
   by_cases h9:n < 10
   . rw [dif_pos h9,if_pos h9]
   . rw [dif_neg h9,if_neg h9]
     have hf:0 < f:=by
      cases f with
      | zero=>simp at h; omega
      | succ f=>omega
     rw [LH f (n / 10) (by rw [Nat.pow_succ] at h; omega) hf]
theorem MP {n:Int} (h:fQ n=true):Lib.itoa n=mx n:=by
 have hn:=of_decide_eq_true h
 have hp:(1000000:Nat) < 10 ^ 20:=by decide
 unfold Lib.itoa mx
 rw [if_neg (by omega),LH 20 _ (by omega) (by omega)]
theorem KF {n:Int} {R:cA->St->Prop} (hn:fQ n=true) (h:PS b v ao bh U) (hb:bh.length <= NT) (hk:∀ ad,PS b v ao (bh++[ov n]) ad->R (.ret (.aF [])) ad):ae K 234 [.box b 0,.int .i64 n] U R:=by
 refine Pr ?_
 unfold Pq
 obtain ⟨vl,gw⟩:=h.ld
 have Yd:=of_decide_eq_true hn
 simp only [bU,aC]
 refine gV (dX gw rfl (mr (Dz n (by omega) (by omega)) ?_))
 rw [MP hn]
 refine Xe [.int .u8 2,.str (mx n),.int .i64 0] rfl ?_
 refine Xg rfl (CE (x:=ov n) h hb rfl gw fun ad sM g wJ f o1=>⟨fun c hc=>?_,?_⟩)
 . simp only [cM,ia,cD,List.not_mem_nil,or_false] at hc
   subst hc
   exact o1
 . refine gV (Ad h f wJ g fun aZ h2=>ak.mk (hk _ h2))
theorem Hh {c:UInt8} {s:aQ}:bm (c::s)=(if 97 <= c.toNat/\c.toNat <= 122 then 3 else 4,c::s):=by
 unfold bm oF
 simp only [dI]
theorem RC {ws:List aQ} {cp:j9} {R:cA->St->Prop} (zr:∀ w ∈ ws,w ≠ []) (hl:ws.length <= 1000) (h:PS b v ao bh U) (hb:(bh++ws.map bm).length <= NT) (hk:∀ ad,PS b v ao (bh++ws.map bm) ad->R (.ret (.aF [])) ad):ae K 231 [.box b 0,.vec ws.length cp (ws.map .str)] U R:=by
 refine Pk ?_
 unfold Pj
 rw [show cj (some false) (.vec ws.length cp (ws.map .str))=.val (.int .i64 ws.length) from rfl,al]
 refine ⟨fun m w0 w7 w8 w9 ad=>∃ i:Nat,m=ws.length - i/\i <= ws.length/\w0=.box b 0/\w7=.vec ws.length cp (ws.map .str)/\w8=.int .i64 ws.length/\w9=.int .i64 (i:Nat)/\PS b v ao (bh++(ws.take i).map bm) ad,⟨_,0,rfl,by omega,rfl,rfl,rfl,rfl,by simpa using h⟩,?_⟩
 rintro m w0 w7 w8 w9 aP ⟨i,rfl,hi,rfl,rfl,rfl,rfl,h1⟩
 rw [bP,al]
 refine fI (fun aO=>?_) fun jo=>?_
 . have aO:i < ws.length:=by omega
   obtain ⟨w,hw⟩:∃ w,ws[i]=w:=⟨_,rfl⟩
   have hx:ws[i]?=some w:=by simp [aO,hw]
   have bT:=zr w (fj hx)
   obtain ⟨c,s,rfl⟩:∃ c s,w=c::s:=by
    cases w with
    | nil=>exact absurd rfl bT
    | cons c s=>exact ⟨c,s,rfl⟩
   have hd:(ws.map AV.str).drop i=.str (c::s)::(ws.map AV.str).drop (i+1):=by
    rw [gl (by simpa using aO)]; simp [hw]
   rw [CU,gb,Nat.mul_one,hd]
   refine ⟨by omega,?_⟩
   rw [oB,bE]
   intro j hj
   have tail:∀ k:Int,k=((bm (c::s)).1:Nat)->j (.box b 0) (.str (c::s)) (.int .u8 k) (.vec ws.length cp (ws.map .str)) (.int .i64 ws.length) (.int .i64 (i:Nat)) aP:=by
    intro k Di
    refine hj _ _ _ _ _ _ _ ?_
    obtain ⟨vl,gw⟩:=h1.ld
    simp only [bU,al]
    refine fV (dq gw rfl ?_)
    refine qA [.int .u8 k,.str (c::s),.int .i64 0] rfl ?_
    have sX:(bh++(ws.take i).map bm).length <= NT:=by simp at hb ⊢; omega
    refine Lu rfl (CE (x:=bm (c::s)) h1 sX (by rw [Di]; rfl) gw fun ad sM g wJ f _=>?_)
    refine fV (Ad h1 f wJ g fun aZ h2=>?_)
    rw [dr]
    refine ⟨bw (by omega) (by omega),ws.length - (i+1),by omega,i+1,rfl,by omega,rfl,rfl,rfl,by simp,?_⟩
    have e:(ws.take (i+1)).map bm=(ws.take i).map bm++[bm (c::s)]:=by rw [qU,hx]; simp
    rw [e,<- iM]; exact h2
   rw [yY]
   refine ⟨by simp,?_⟩
   simp only [Int.toNat_zero,List.getD_cons_zero,fO,al,aU]
   by_cases h97:(97:Int) <= (c.toNat:Int)
   . simp only [h97,da,gm,aI,bQ,aC]
     rw [Ey]
     refine ⟨by simp,?_⟩
     simp only [Int.toNat_zero,List.getD_cons_zero,kG,aC,aL,if_true,al]
     refine fI (fun acO=>tail 3 ?_) fun acO=>tail 4 ?_
     . rw [Hh,if_pos (by omega)]; rfl
     . rw [Hh,if_neg (by omega)]; rfl
   . simp only [h97,dN,show (false == true)=false from rfl,aI,bV,aL,bJ,if_false,al]
     refine cO (tail 4 ?_)
     rw [Hh,if_neg (by omega)]; rfl
 . have hi:i=ws.length:=by omega
   subst hi
   rw [sE] at h1
   exact ak.mk (hk _ h1)
end
end Go.Rip
namespace Go.Rip
open Go.Proofs Go.RowKit
theorem DG {k:Int} (h:di k=true):pD k=(dD k:Nat):=by
 have h:=of_decide_eq_true h
 have key:∀ n:Fin 26,pD ((n.val:Int)+9)=(dD ((n.val:Int)+9):Nat):=by decide
 have:=key ⟨(k - 9).toNat,by omega⟩
 have e:(((k - 9).toNat:Int)+9)=k:=by omega
 simp only [e] at this
 exact this
def oM (v:AV) (n:Nat) (t:Tre):Prop:=∀ (b:Nat) (ao U:St) (bh:List Tx) (R:cA->St->Prop),PS b v ao bh U->(bh++t.pr).length <= NT->(∀ ad,PS b v ao (bh++t.pr) ad->R (.ret (.aF [])) ad)->ae K 123 [.box b 0,.int .i64 (n:Nat)] U R
section
variable {b n:Nat} {U ao aP ad:St} {v:AV} {bh l rest:List Tx} {L:List Nd} {t:Tre}
theorem cw {w:aQ} {K':AV->St->Prop} {Kp:AV->St->Prop} (h:K' (.vec [w].length .full ([w].map .str)) U):(aq (some (9,1)) (some [AV.str []]) 1 false [(0,(AV.str w))]).wp K U K' Kp:=aaa rfl rfl rfl h
theorem nv {w u:aQ} {K':AV->St->Prop} {Kp:AV->St->Prop} (h:K' (.vec [w,u].length .full ([w,u].map .str)) U):(aq (some (9,1)) (some [AV.str []]) 2 false [(0,(AV.str w)),(1,(AV.str u))]).wp K U K' Kp:=aab rfl rfl rfl rfl h
theorem H3 {w u z:aQ} {K':AV->St->Prop} {Kp:AV->St->Prop} (h:K' (.vec [w,u,z].length .full ([w,u,z].map .str)) U):(aq (some (9,1)) (some [AV.str []]) 3 false [(0,(AV.str w)),(1,(AV.str u)),(2,(AV.str z))]).wp K U K' Kp:=by
 rw [fN]
 refine ⟨by omega,?_⟩
 rw [ek (o:=0) (s:=1) rfl]
 refine ⟨⟨rfl,rfl,by simp [bF]⟩,?_⟩
 rw [ek (o:=1) (s:=1) rfl]
 refine ⟨⟨rfl,rfl,by simp [bF,aB,au]⟩,?_⟩
 rw [ek (o:=2) (s:=1) rfl]
 refine ⟨⟨rfl,rfl,by simp [bF,aB,au]⟩,?_⟩
 rw [gI]
 exact ⟨rfl,h⟩
theorem db {ws:List aQ} {rest:List Tx} {K':AV->St->Prop} {Kp:AV->St->Prop} (zr:∀ w ∈ ws,w ≠ []) (hl:ws.length <= 1000) (h:PS b v ao bh U) (hb:(bh++(ws.map bm++rest)).length <= NT)
 (hk:∀ ad,PS b v ao (bh++ws.map bm) ad->((bh++ws.map bm)++rest).length <= NT->K' (.aF []) ad):ae K 231 [.box b 0,.vec ws.length .full (ws.map .str)] U (ag K' Kp) :=
 RC zr hl h (by simp at hb ⊢; omega) fun ad h'=>hk ad h' (by simpa using hb)
theorem lu {s:aQ} {rest:List Tx} {K':AV->St->Prop} {Kp:AV->St->Prop} (h:PS b v ao bh U) (hb:(bh++(iY s::rest)).length <= NT) (hk:∀ ad,PS b v ao (bh++[iY s]) ad->((bh++[iY s])++rest).length <= NT->K' (.aF []) ad):ae K 232 [.box b 0,.str s] U (ag K' Kp) :=
 RB h (by simp at hb; omega) fun ad h'=>hk ad h' (by simpa using hb)
theorem pa {m:Int} {rest:List Tx} {K':AV->St->Prop} {Kp:AV->St->Prop} (hm:fQ m=true) (h:PS b v ao bh U) (hb:(bh++(ov m::rest)).length <= NT) (hk:∀ ad,PS b v ao (bh++[ov m]) ad->((bh++[ov m])++rest).length <= NT->K' (.aF []) ad):ae K 234 [.box b 0,.int .i64 m] U (ag K' Kp) :=
 KF hm h (by simp at hb; omega) fun ad h'=>hk ad h' (by simpa using hb)
theorem qk {rest:List Tx} {K':AV->St->Prop} {Kp:AV->St->Prop} (g:oM v n t) (h:PS b v ao bh U) (hb:(bh++(t.pr++rest)).length <= NT) (hk:∀ ad,PS b v ao (bh++t.pr) ad->((bh++t.pr)++rest).length <= NT->K' (.aF []) ad):ae K 123 [.box b 0,.int .i64 (n:Nat)] U (ag K' Kp) :=
 g _ _ _ _ _ h (by simp at hb ⊢; omega) fun ad h'=>hk ad h' (by simpa using hb)
theorem Vk {x:Nd} {c:AV} {o:Nat} (hv:dA v L.length (cH L)) (hx:L[n]?=some x) (hc:(cG x)[o]?=some c) (h:PS b v ao bh U) {K':AV->St->Prop} {Kp:AV->St->Prop} (hk:K' c U) :
 (aY (.box b 0)).wp K U (fun v8 U=>(af (some 0) v8).wp K U (fun v9 U=>(af (some 0) v9).wp K U (fun v10 U=>(af (some 0) v10).wp K U (fun v11 U=>(ah (some (false,1)) v11 U).wp K U (fun v12 U =>
   (aG (some (43,6)) none v12 (.int .i64 (n:Nat))).wp K U (fun ct U=>(af (some o) ct).wp K U (fun bM U=>(ah (some (false,1)) bM U).wp K U K' Kp) Kp) Kp) Kp) Kp) Kp) Kp) Kp:=by
 obtain ⟨vl,gw⟩:=h.ld
 simp only [bU,al]
 exact fV (fV (fV (dq gw rfl (Lh (hv.Rc (U:=U)) hx hc hk))))
theorem Vz {least:Nat} {x:Nd} {R:cA->St->Prop} (hv:dA v L.length (cH L)) (hx:L[n]?=some x) (si:x.kind=t.kind) (ht:di t.kind=true) (g:oM v n t) (h:PS b v ao bh U) (hb:(bh++gR t.kind least t.pr).length <= NT)
 (hk:∀ ad,PS b v ao (bh++gR t.kind least t.pr) ad->R (.ret (.aF [])) ad):ae K 235 [.box b 0,.int .i64 (n:Nat),.int .i64 (least:Nat)] U R:=by
 refine Pu ?_
 unfold Ps
 refine Vk hv hx (show (cG x)[0]?=some (.int .u8 x.kind) from rfl) h ?_
 obtain ⟨vl,gw⟩:=h.ld
 refine xS (l:=[]) gw ?_
 rw [bu,si,DG ht,fO,al]
 refine fI (fun jo=>?_) fun aO=>?_
 . have e:gR t.kind least t.pr=t.pr:=by unfold gR; rw [if_pos (by omega)]
   rw [e] at hb hk
   exact g _ _ _ _ _ h hb fun ad h'=>ak.mk (hk ad h')
 . have e:gR t.kind least t.pr=[fy].map bm++(t.pr++[gd].map bm):=by unfold gR; rw [if_neg (by omega)]; rfl
   rw [e] at hb hk
   refine cw (db (by decide) (by decide) h hb fun aP h1 fX=>?_)
   refine qk g h1 fX fun aZ h2 fY=>?_
   refine cw (db (rest:=[]) (by decide) (by decide) h2 (by simpa using fY) fun bZ h3 _=>ak.mk (hk bZ ?_))
   simpa using h3
theorem u4 {least:Nat} {x:Nd} {rest:List Tx} {K':AV->St->Prop} {Kp:AV->St->Prop} (hv:dA v L.length (cH L)) (hx:L[n]?=some x) (si:x.kind=t.kind) (ht:di t.kind=true) (g:oM v n t) (h:PS b v ao bh U) (hb:(bh++(gR t.kind least t.pr++rest)).length <= NT)
 (hk:∀ ad,PS b v ao (bh++gR t.kind least t.pr) ad->((bh++gR t.kind least t.pr)++rest).length <= NT->K' (.aF []) ad):ae K 235 [.box b 0,.int .i64 (n:Nat),.int .i64 (least:Nat)] U (ag K' Kp) :=
 Vz hv hx si ht g h (by simp at hb ⊢; omega) fun ad h'=>hk ad h' (by simpa using hb)
theorem NB (w:aQ) (m:List Tx):∀ {ls:List (List Tx)},ls ≠ []->eE w (ls++[m])=eE w ls++bm w::m
 | [],h=>absurd rfl h
 | l::ls,_=>by rw [ib,o8,o8]; simp
theorem NC (w:aQ) (ls:List (List Tx)) (j:Nat):(eE w (ls.take j)).length <= (eE w ls).length:=by
 cases ls with
 | nil=>simp
 | cons l ls =>
   cases j with
   | zero=>simp [eE]
   | succ j =>
     rw [List.take_succ_cons,o8,o8,dh,dh]
     have:(List.flatMap (fun m=>bm w::m) (ls.take j)).length <= (List.flatMap (fun m=>bm w::m) ls).length:=by
      conv=>rhs; rw [<- List.take_append_drop j ls,List.flatMap_append,dh]
      omega
     omega
theorem jH {vk:AV} {ks:List Nat} {i k e:Nat} {U:St} {K':AV->St->Prop} {Kp:AV->St->Prop} (hv:dA vk ks.length (dF ks)) (hx:ks[i]?=some k) (h:K' (.int .i64 (k:Nat)) U) :
 (aG (some (e,1)) none vk (.int .i64 (i:Nat))).wp K U (fun p τ=>(ah (some (false,1)) p τ).wp K τ K' Kp) Kp:=by
 have aO:=(c8.1 hx).1
 obtain ⟨r,hr⟩:=ints_at hv hx
 rw [hr,wp_cond,al,oB,bE]
 exact ⟨by omega,h⟩
theorem UW {vk:AV} {ks:List Nat} {ts:List Tre} {R:cA->St->Prop} (cF:dA vk ks.length (dF ks)) (hlen:ks.length=ts.length) (hl:ks.length <= 100000) (hg:∀ (i n:Nat) (t:Tre),ks[i]?=some n->ts[i]?=some t->oM v n t) (h:PS b v ao bh U)
 (hb:(bh++eE fG (ts.map Tre.pr)).length <= NT) (hk:∀ ad,PS b v ao (bh++eE fG (ts.map Tre.pr)) ad->R (.ret (.aF [])) ad):ae K 233 [.box b 0,vk] U R:=by
 refine Pp ?_
 unfold Po
 rw [cF.len,al]
 refine ⟨fun m w0 w6 w7 w8 ad=>∃ i:Nat,m=ks.length - i/\i <= ks.length/\w0=.box b 0/\w6=vk/\w7=.int .i64 ks.length/\w8=.int .i64 (i:Nat)/\PS b v ao (bh++eE fG ((ts.map Tre.pr).take i)) ad,⟨_,0,rfl,by omega,rfl,rfl,rfl,rfl,by simpa [eE] using h⟩,?_⟩
 rintro m w0 w6 w7 w8 aP ⟨i,rfl,hi,rfl,rfl,rfl,rfl,h1⟩
 rw [bP,al]
 refine fI (fun aO=>?_) fun jo=>?_
 . have aO:i < ks.length:=by omega
   obtain ⟨n,hn⟩:∃ n,ks[i]?=some n:=⟨ks[i],by simp [aO]⟩
   obtain ⟨t,ht⟩:∃ t,ts[i]?=some t:=⟨ts[i]'(by omega),by simp [show i < ts.length by omega]⟩
   have g:=hg i n t hn ht
   have o3:(ts.map Tre.pr)[i]?=some t.pr:=by simp [ht]
   have py:(ts.map Tre.pr).take (i+1)=(ts.map Tre.pr).take i++[t.pr]:=by rw [qU,o3]; rfl
   have hle:=NC fG (ts.map Tre.pr) (i+1)
   have eH:=hb
   rw [dh] at eH
   refine jH cF hn ?_
   intro j hj
   have tail:∀ (tk:List Tx) (ad:St),PS b v ao tk ad->tk++t.pr=bh++eE fG ((ts.map Tre.pr).take (i+1))->j (.box b 0) (.int .i64 (n:Nat)) w6 (.int .i64 ks.length) (.int .i64 (i:Nat)) ad:=by
    intro tk ad h' e
    refine hj _ _ _ _ _ _ ?_
    refine g _ _ _ _ _ h' (by rw [e,dh]; omega) fun aZ h2=>?_
    rw [bu,dr]
    exact ⟨bw (by omega) (by omega),ks.length - (i+1),by omega,i+1,rfl,by omega,rfl,rfl,rfl,by simp,by rw [<- e]; exact h2⟩
   rw [dO,al]
   refine fI (fun xG=>?_) fun SX=>?_
   . have bT:(ts.map Tre.pr).take i ≠ []:=fun e=>by
      have:=congrArg List.length e
      rw [List.length_take,List.length_map,oQ] at this; omega
     have wQ:=NB fG t.pr bT
     rw [py] at hle tail
     rw [wQ] at hle tail
     refine cw (db (ws:=[fG]) (rest:=t.pr) (by decide) (by decide) h1 (by simp at hb hle ⊢; omega) fun aZ h2 _=>?_)
     exact tail _ aZ h2 (by simp)
   . have xH:i=0:=by omega
     subst xH
     exact tail _ aP h1 (by rw [py]; simp [eE])
 . have hi:i=ks.length:=by omega
   subst hi
   rw [pL (by simp; omega)] at h1
   exact ak.mk (hk _ h1)
def de:List aQ->List Tre->List Tx
 | w::ws,t::ts=>bm w::(gR t.kind 1 t.pr++de ws ts)
 | _,_=>[]
theorem ub:∀ (i:Nat) (ws:List aQ) (ts:List Tre),de ws ts=de (ws.take i) (ts.take i)++de (ws.drop i) (ts.drop i)
 | 0,ws,ts=>by simp [de]
 | i+1,[],ts=>by simp [de]
 | i+1,w::ws,[]=>by simp [de]
 | i+1,w::ws,t::ts=>by
   rw [List.take_succ_cons,List.take_succ_cons,List.drop_succ_cons,List.drop_succ_cons,de,de,ub i ws ts]; simp
theorem No {vk:AV} {ks:List Nat} {ts:List Tre} {ws:List aQ} {R:cA->St->Prop} (hv:dA v L.length (cH L)) (cF:dA vk ks.length (dF ks)) (hlen:ks.length=ts.length) (hwl:ws.length=ts.length) (hl:ks.length <= 100000) (zr:∀ w ∈ ws,w ≠ [])
 (hg:∀ (i n:Nat) (t:Tre),ks[i]?=some n->ts[i]?=some t->oM v n t/\di t.kind=true/\∃ x,L[n]?=some x/\x.kind=t.kind) (h:PS b v ao bh U)
 (hb:(bh++de ws ts).length <= NT) (hk:∀ ad,PS b v ao (bh++de ws ts) ad->R (.ret (.aF [])) ad):ae K 237 [.box b 0,vk,.vec ws.length .full (ws.map .str)] U R:=by
 refine Py ?_
 unfold Px
 rw [cF.len,al]
 refine ⟨fun m w0 w2 w8 w9 D7 ad=>∃ i:Nat,m=ks.length - i/\i <= ks.length/\w0=.box b 0/\w2=.vec ws.length .full (ws.map .str)/\w8=vk/\w9=.int .i64 ks.length/\D7=.int .i64 (i:Nat)/\PS b v ao (bh++de (ws.take i) (ts.take i)) ad,⟨_,0,rfl,by omega,rfl,rfl,rfl,rfl,rfl,by simpa [de] using h⟩,?_⟩
 rintro m w0 w2 w8 w9 D7 aP ⟨i,rfl,hi,rfl,rfl,rfl,rfl,rfl,h1⟩
 rw [bP,al]
 refine fI (fun aO=>?_) fun jo=>?_
 . have aO:i < ks.length:=by omega
   obtain ⟨n,hn⟩:∃ n,ks[i]?=some n:=⟨ks[i],by simp [aO]⟩
   obtain ⟨t,ht⟩:∃ t,ts[i]?=some t:=⟨ts[i]'(by omega),by simp [show i < ts.length by omega]⟩
   obtain ⟨w,hw⟩:∃ w,ws[i]?=some w:=⟨ws[i]'(by omega),by simp [show i < ws.length by omega]⟩
   obtain ⟨g,gt,x,hx,si⟩:=hg i n t hn ht
   have hwn:=zr w (fj hw)
   have e1:=ub i ws ts
   have ed:de (ws.drop i) (ts.drop i)=bm w::(gR t.kind 1 t.pr++de (ws.drop (i+1)) (ts.drop (i+1))):=by
    rw [gl (show i < ws.length by omega),gl (show i < ts.length by omega),de]
    have a1:ws[i]'(by omega)=w:=(c8.1 hw).2
    have a2:ts[i]'(by omega)=t:=(c8.1 ht).2
    rw [a1,a2]
   have e2:=ub (i+1) ws ts
   rw [e1,ed] at hb
   have e3:de (ws.take (i+1)) (ts.take (i+1))=de (ws.take i) (ts.take i)++bm w::gR t.kind 1 t.pr:=by
    have:de (ws.take (i+1)) (ts.take (i+1))++de (ws.drop (i+1)) (ts.drop (i+1))=(de (ws.take i) (ts.take i)++bm w::gR t.kind 1 t.pr)++de (ws.drop (i+1)) (ts.drop (i+1)):=by
     rw [<- e2,e1,ed]; simp
    exact List.append_cancel_right this
   refine jH cF hn ?_
   have hd:(ws.map AV.str).drop i=.str w::(ws.map AV.str).drop (i+1):=by
    rw [gl (by simp; omega)]
    have a1:ws[i]'(by omega)=w:=(c8.1 hw).2
    simp [a1]
   rw [CU,gb,Nat.mul_one,hd]
   refine ⟨by omega,?_⟩
   rw [oB,bE]
   refine cw (db (ws:=[w]) (rest:=gR t.kind 1 t.pr++de (ws.drop (i+1)) (ts.drop (i+1))) (fun u hu=>by rw [jg] at hu; subst hu; exact hwn) (by simp) h1 (by simpa using hb) fun aZ h2 fY=>?_)
   refine u4 (least:=1) hv hx si gt g h2 fY fun bZ h3 _=>?_
   rw [dr]
   refine ⟨bw (by omega) (by omega),ks.length - (i+1),by omega,i+1,rfl,by omega,rfl,rfl,rfl,rfl,by simp,?_⟩
   rw [e3]
   simpa using h3
 . have hi:i=ks.length:=by omega
   subst hi
   rw [pL (by omega),pL (by omega)] at h1
   exact ak.mk (hk _ h1)
end
end Go.Rip
namespace Go.Rip
open Go.Proofs Go.RowKit
section
variable {b n:Nat} {U ao aP ad:St} {v:AV} {bh l rest:List Tx} {L:List Nd} {t:Tre}
structure eF (v:AV) (L:List Nd) (pl:List Nat) (ks:List Tre):Prop where
 len:pl.length=ks.length
 nd:∀ (i n:Nat) (t:Tre),pl[i]?=some n->ks[i]?=some t->oM v n t/\∃ x,L[n]?=some x/\x.kind=t.kind
def xj (t:Tre) (z:Int):List AV:=[.int .u8 t.kind,.str t.text,.int .i64 t.n,.int .i64 t.m,.int .i64 t.at_,.int .i64 z]
def hZ (f:FuncId) (v:AV) (t:Tre) (pl:List Nat):Prop:=∀ (b:Nat) (ao U:St) (bh:List Tx) (R:cA->St->Prop) (z:Int) (vk:AV),dA vk pl.length (dF pl)->PS b v ao bh U->(bh++t.pr).length <= NT->(∀ ad,PS b v ao (bh++t.pr) ad->R (.ret (.aF [])) ad)->ae K f [.box b 0,.agg (xj t z),vk] U R
theorem eF.one {pl:List Nat} {A:Tre} (h:eF v L pl [A]):∃ p,pl=[p]/\oM v p A/\∃ x,L[p]?=some x/\x.kind=A.kind:=by
 match pl,h.len with
 | [p],_=>exact ⟨p,rfl,h.nd 0 p A rfl rfl⟩
theorem eF.two {pl:List Nat} {A B:Tre} (h:eF v L pl [A,B]):∃ p q,pl=[p,q]/\(oM v p A/\∃ x,L[p]?=some x/\x.kind=A.kind)/\oM v q B/\∃ x,L[q]?=some x/\x.kind=B.kind:=by
 match pl,h.len with
 | [p,q],_=>exact ⟨p,q,rfl,h.nd 0 p A rfl rfl,h.nd 1 q B rfl rfl⟩
theorem eF.three {pl:List Nat} {A B C:Tre} (h:eF v L pl [A,B,C]):∃ p q r,pl=[p,q,r]/\(oM v p A/\∃ x,L[p]?=some x/\x.kind=A.kind)/\(oM v q B/\∃ x,L[q]?=some x/\x.kind=B.kind)/\oM v r C/\∃ x,L[r]?=some x/\x.kind=C.kind:=by
 match pl,h.len with
 | [p,q,r],_=>exact ⟨p,q,r,rfl,h.nd 0 p A rfl rfl,h.nd 1 q B rfl rfl,h.nd 2 r C rfl rfl⟩
theorem eF.app {pl:List Nat} {ks ks':List Tre} (h:eF v L pl (ks++ks')):eF v L (pl.take ks.length) ks/\eF v L (pl.drop ks.length) ks':=by
 have hl:=h.len
 rw [dh] at hl
 refine ⟨⟨by rw [List.length_take]; omega,fun i n t h1 h2=>?_⟩,⟨by rw [List.length_drop]; omega,fun i n t h1 h2=>?_⟩⟩
 . have hi:=(c8.1 h2).1
   rw [List.getElem?_take,if_pos hi] at h1
   exact h.nd i n t h1 (by rw [ud hi]; exact h2)
 . rw [List.getElem?_drop] at h1
   exact h.nd _ n t h1 (by rw [List.getElem?_append_right (by omega),Nat.add_sub_cancel_left]; exact h2)
theorem eX {C:List AV} {K':AV->St->Prop} {Kp:AV->St->Prop} (h:PS b v ao bh U) (hk:∀ b4 aP,b4 ≠ b->aP.box b4=some C->PS b v aP bh aP->(∀ l ad,PS b v aP l ad->PS b v ao l ad)->K' (.box b4 0) aP):(dT (.agg C)).wp K U K' Kp:=by
 rw [er rfl]
 intro b4 gu
 obtain ⟨vl,gw⟩:=h.ld
 have h1:=h.mono (a7 gu (x:=.box (au (.agg C))))
 exact hk b4 _ (gu.bK gw).symm aK h1.BD fun l ad h'=>h1.app h'
theorem fC {b4 o:Nat} {C:List AV} {c:AV} {tk:List Tx} {K':AV->St->Prop} {Kp:AV->St->Prop} (n4:b4 ≠ b) (m4:aP.box b4=some C) (h':PS b v aP tk ad) (hc:C[o]?=some c) (k:K' c ad) :
 (af (some o) (.box b4 0)).wp K ad (fun v8 U=>(ah (some (false,1)) v8 U).wp K U K' Kp) Kp:=by
 have aO:=(c8.1 hc).1
 have hd:C.drop (0+o)=c::C.drop (o+1):=by
  rw [cV,gl aO,(c8.1 hc).2]
 exact fV (dq (h'.fr.aS n4 m4) hd k)
theorem eV {bt:BT} {l:Bool} {k:IntKind} {p q:Int} {A B:AV->St->Prop} {Kp:AV->St->Prop} (h:p ≠ q) (hk:B (.bool false) U):(ar .eql bt l (.int k p) (.int k q)).wp K U (fun v U=>av v (A v U) (B v U)) Kp:=by
 rw [bj,al,decide_eq_false h]
 exact cO hk
theorem oo {bt:BT} {l:Bool} {k:IntKind} {p q:Int} {A B:AV->St->Prop} {Kp:AV->St->Prop} (h:p=q) (hk:A (.bool true) U):(ar .eql bt l (.int k p) (.int k q)).wp K U (fun v U=>av v (A v U) (B v U)) Kp:=by
 rw [bj,al,decide_eq_true h]
 exact df hk
theorem iN {vk:AV} {pl:List Nat} {ts:List Tre} {ws:List aQ} {rest:List Tx} {K':AV->St->Prop} {Kp:AV->St->Prop} (hv:dA v L.length (cH L)) (cF:dA vk pl.length (dF pl)) (hp:eF v L pl ts) (Yp:∀ t ∈ ts,di t.kind=true) (hwl:ws.length=ts.length) (hl:ts.length <= 1000) (zr:∀ w ∈ ws,w ≠ [])
 (h:PS b v ao bh U) (hb:(bh++(de ws ts++rest)).length <= NT) (hk:∀ ad,PS b v ao (bh++de ws ts) ad->((bh++de ws ts)++rest).length <= NT->K' (.aF []) ad):ae K 237 [.box b 0,vk,.vec ws.length .full (ws.map .str)] U (ag K' Kp) :=
 No hv cF hp.len hwl (by have:=hp.len; omega) zr (fun i n t h1 h2=>⟨(hp.nd i n t h1 h2).1,Yp t (fj h2),(hp.nd i n t h1 h2).2⟩) h (by simp at hb ⊢; omega) fun ad h'=>hk ad h' (by simpa using hb)
theorem yT {vk:AV} {pl:List Nat} {ts:List Tre} {rest:List Tx} {K':AV->St->Prop} {Kp:AV->St->Prop} (cF:dA vk pl.length (dF pl)) (hp:eF v L pl ts) (hl:ts.length <= 1000) (h:PS b v ao bh U)
 (hb:(bh++(eE fG (ts.map Tre.pr)++rest)).length <= NT) (hk:∀ ad,PS b v ao (bh++eE fG (ts.map Tre.pr)) ad->((bh++eE fG (ts.map Tre.pr))++rest).length <= NT->K' (.aF []) ad):ae K 233 [.box b 0,vk] U (ag K' Kp) :=
 UW cF hp.len (by have:=hp.len; omega) (fun i n t h1 h2=>(hp.nd i n t h1 h2).1) h (by simp at hb ⊢; omega) fun ad h'=>hk ad h' (by simpa using hb)
theorem lL {vk:AV} {pl:List Nat} (hv:dA vk pl.length (dF pl)) (h0:pl ≠ []) {i j:Nat} (fJ:i <= j) (hj:j <= pl.length) {hi:Option AV} (hhi:dt pl.length hi=some (j:Int)) {lo:Option AV} (hlo:dt 0 lo=some (i:Int)) {K':AV->St->Prop} {Kp:AV->St->Prop}
 (hk:∀ c,K' (.vec ((pl.take j).drop i).length c (dF ((pl.take j).drop i))) U):(eI false (some (3,1)) vk lo hi).wp K U K' Kp:=by
 rcases hv with ⟨h1,_,_⟩ | ⟨c,rfl⟩
 . exact absurd (qS.1 h1) h0
 . rw [yl,hhi,hlo]
   simp only [gb,Nat.mul_one]
   have:j - i=((pl.take j).drop i).length:=by simp; omega
   rw [this,wp_cond,al]
   have e:((dF pl).take j).drop i=dF ((pl.take j).drop i):=by simp [dF,List.map_take,List.map_drop]
   rw [e]
   exact ⟨by omega,hk _⟩
section
variable {x:aQ} {nn m a:Int} {pl:List Nat}
theorem UC {A B C:Tre} (hv:dA v L.length (cH L)) (hp:eF v L pl [A,B,C]) (hA:di A.kind=true) (hB:di B.kind=true) (hC:di C.kind=true):hZ 184 v (.mk 10 x nn m a [A,B,C]) pl:=by
 intro b ao U bh R z vk cF h hb hk
 have e:(Tre.mk 10 x nn m a [A,B,C]).pr=de [uk,pS,fZ] [A,B,C]++[]:=by rw [Tre.fF]; simp [dH,de]
 rw [e] at hb
 refine nu ?_
 unfold qH
 refine eX h fun b4 aP n4 m4 h1 up=>fC n4 m4 h1 (show _=some (.int .u8 10) from rfl) ?_
 refine eV (by decide) (oo rfl ?_)
 refine H3 (iN hv cF hp (by simp [hA,hB,hC]) rfl (by simp) (by decide) h1 hb fun aZ h2 _=>ak.mk (hk _ (up _ _ ?_)))
 rw [e,ia]; exact h2
theorem Fl {k:Int} {w u:aQ} {A B:Tre} (Dj:(k,w,u) ∈ [((11:Int),lz,uj),(15,kM,fZ)]) (hv:dA v L.length (cH L)) (hp:eF v L pl [A,B]) (hA:di A.kind=true) (hB:di B.kind=true):hZ 184 v (.mk k x nn m a [A,B]) pl:=by
 intro b ao U bh R z vk cF h hb hk
 have zr:∀ y ∈ [w,u],y ≠ []:=by
  simp only [cD,List.not_mem_nil,or_false,ik] at Dj
  rcases Dj with ⟨_,rfl,rfl⟩ | ⟨_,rfl,rfl⟩ <;> decide
 have e:(Tre.mk k x nn m a [A,B]).pr=de [w,u] [A,B]++[]:=by
  rw [Tre.fF]
  simp only [cD,List.not_mem_nil,or_false,ik] at Dj
  rcases Dj with ⟨rfl,rfl,rfl⟩ | ⟨rfl,rfl,rfl⟩ <;> simp [dH,de]
 rw [e] at hb
 refine nu ?_
 unfold qH
 refine eX h fun b4 aP n4 m4 h1 up=>fC n4 m4 h1 (show _=some (.int .u8 k) from rfl) ?_
 have fin:=fun (aZ:St) (h2:PS b v aP (bh++de [w,u] [A,B]) aZ)=>hk aZ (up _ _ (by rw [e,ia]; exact h2))
 simp only [cD,List.not_mem_nil,or_false,ik] at Dj
 rcases Dj with ⟨rfl,rfl,rfl⟩ | ⟨rfl,rfl,rfl⟩
 . refine eV (by decide) (eV (by decide) (oo rfl ?_))
   exact nv (iN hv cF hp (by simp [hA,hB]) rfl (by simp) zr h1 hb fun aZ h2 _=>ak.mk (fin _ h2))
 . refine eV (by decide) (eV (by decide) (eV (by decide) (oo rfl ?_)))
   exact nv (iN hv cF hp (by simp [hA,hB]) rfl (by simp) zr h1 hb fun aZ h2 _=>ak.mk (fin _ h2))
theorem QB {A:Tre} (hn:fQ nn=true) (hm:fQ m=true) (hv:dA v L.length (cH L)) (hp:eF v L pl [A]) (hA:di A.kind=true):hZ 184 v (.mk 12 x nn m a [A]) pl:=by
 intro b ao U bh R z vk cF h hb hk
 have e:(Tre.mk 12 x nn m a [A]).pr=[rM].map bm++(iY x::([gX].map bm++(ov nn::([bX].map bm++(ov m::(de [lT] [A]++[])))))):=by rw [Tre.fF]; simp [dH,de]
 rw [e] at hb
 refine nu ?_
 unfold qH
 refine eX h fun b4 aP n4 m4 h1 up=>fC n4 m4 h1 (show _=some (.int .u8 12) from rfl) ?_
 refine eV (by decide) (eV (by decide) (eV (by decide) (eV (by decide) (oo rfl ?_))))
 refine cw (db (by decide) (by decide) h1 hb fun aZ h2 b2=>fC n4 m4 h2 rfl ?_)
 refine lu h2 b2 fun bZ h3 b3=>?_
 refine cw (db (by decide) (by decide) h3 b3 fun cC h4 oU=>fC n4 m4 h4 rfl ?_)
 refine pa hn h4 oU fun dm h5 b5=>?_
 refine cw (db (by decide) (by decide) h5 b5 fun mi h6 b6=>fC n4 m4 h6 rfl ?_)
 refine pa hm h6 b6 fun iw h7 b7=>?_
 refine cw (iN hv cF hp (by simp [hA]) rfl (by simp) (by decide) h7 b7 fun tJ h8 _=>ak.mk (hk _ (up _ _ ?_)))
 rw [e]; simpa [Tre.text,Tre.n,Tre.m] using h8
theorem JD {A B:Tre} (hv:dA v L.length (cH L)) (hp:eF v L pl [A,B]) (hA:di A.kind=true) (hB:di B.kind=true):hZ 184 v (.mk 13 x nn m a [A,B]) pl:=by
 intro b ao U bh R z vk cF h hb hk
 have e:(Tre.mk 13 x nn m a [A,B]).pr=[nL].map bm++(iY x::(de [lT,fZ] [A,B]++[])):=by rw [Tre.fF]; simp [dH,de]
 rw [e] at hb
 refine nu ?_
 unfold qH
 refine eX h fun b4 aP n4 m4 h1 up=>fC n4 m4 h1 (show _=some (.int .u8 13) from rfl) ?_
 refine eV (by decide) (eV (by decide) (eV (by decide) (eV (by decide) (eV (by decide) (oo rfl ?_)))))
 refine cw (db (by decide) (by decide) h1 hb fun aZ h2 b2=>fC n4 m4 h2 rfl ?_)
 refine lu h2 b2 fun bZ h3 b3=>?_
 refine nv (iN hv cF hp (by simp [hA,hB]) rfl (by simp) (by decide) h3 b3 fun tJ h8 _=>ak.mk (hk _ (up _ _ ?_)))
 rw [e]; simpa [Tre.text,Tre.n,Tre.m] using h8
theorem QC {A:Tre} (hv:dA v L.length (cH L)) (hp:eF v L pl [A]) (hA:di A.kind=true):hZ 184 v (.mk 16 x nn m a [A]) pl:=by
 intro b ao U bh R z vk cF h hb hk
 have e:(Tre.mk 16 x nn m a [A]).pr=iY x::(de [bX] [A]++[]):=by rw [Tre.fF]; simp [dH,de]
 rw [e] at hb
 refine nu ?_
 unfold qH
 refine eX h fun b4 aP n4 m4 h1 up=>fC n4 m4 h1 (show _=some (.int .u8 16) from rfl) ?_
 refine eV (by decide) (eV (by decide) (eV (by decide) (eV (by decide) (eV (by decide) (eV (by decide) (oo rfl ?_))))))
 refine fC n4 m4 h1 rfl ?_
 refine lu h1 hb fun bZ h3 b3=>?_
 refine cw (iN hv cF hp (by simp [hA]) rfl (by simp) (by decide) h3 b3 fun tJ h8 _=>ak.mk (hk _ (up _ _ ?_)))
 rw [e]; simpa [Tre.text,Tre.n,Tre.m] using h8
theorem Hz {A:Tre} (hn:fQ nn=true) (hv:dA v L.length (cH L)) (hp:eF v L pl [A]) (hA:di A.kind=true):hZ 184 v (.mk 14 x nn m a [A]) pl:=by
 intro b ao U bh R z vk cF h hb hk
 have e:(Tre.mk 14 x nn m a [A]).pr=[lU].map bm++(iY x::([bX].map bm++(ov nn::(de [lT] [A]++[])))):=by rw [Tre.fF]; simp [dH,de]
 rw [e] at hb
 refine nu ?_
 unfold qH
 refine eX h fun b4 aP n4 m4 h1 up=>fC n4 m4 h1 (show _=some (.int .u8 14) from rfl) ?_
 refine eV (by decide) (eV (by decide) (eV (by decide) (eV (by decide) (eV (by decide) (eV (by decide) (eV (by decide) (oo rfl ?_)))))))
 refine cw (db (by decide) (by decide) h1 hb fun aZ h2 b2=>fC n4 m4 h2 rfl ?_)
 refine lu h2 b2 fun bZ h3 b3=>?_
 refine cw (db (by decide) (by decide) h3 b3 fun cC h4 oU=>fC n4 m4 h4 rfl ?_)
 refine pa hn h4 oU fun dm h5 b5=>?_
 refine cw (iN hv cF hp (by simp [hA]) rfl (by simp) (by decide) h5 b5 fun tJ h8 _=>ak.mk (hk _ (up _ _ ?_)))
 rw [e]; simpa [Tre.text,Tre.n,Tre.m] using h8
theorem Vp:∀ (A:Tre) (ts:List Tre),eE ff ((A::ts).map fun t=>gR t.kind 1 t.pr)=gR A.kind 1 A.pr++ts.flatMap fun t=>bm ff::gR t.kind 1 t.pr:=by
 intro A ts
 rw [dV,o8,List.flatMap_map]
theorem QD {A:Tre} {ts:List Tre} (AS:ts.length <= 900) (hv:dA v L.length (cH L)) (hp:eF v L pl (A::ts)) (hA:∀ t ∈ A::ts,di t.kind=true):hZ 184 v (.mk 9 x nn m a (A::ts)) pl:=by
 intro b ao U bh R z vk cF h hb hk
 have e:(Tre.mk 9 x nn m a (A::ts)).pr=gR A.kind 1 A.pr++ts.flatMap fun t=>bm ff::gR t.kind 1 t.pr:=by
  rw [Tre.fF,<- Vp]
  simp only [dH,List.map_map]; rfl
 rw [e] at hb
 have hlen:=hp.len
 obtain ⟨p0,pr,rfl⟩:∃ p r,pl=p::r:=by
  cases pl with
  | nil=>simp at hlen
  | cons p r=>exact ⟨p,r,rfl⟩
 obtain ⟨g0,x0,hx0,adu⟩:=hp.nd 0 p0 A rfl rfl
 have hp':eF v L pr ts:=(eF.app (ks:=[A]) hp).2
 refine nu ?_
 unfold qH
 refine eX h fun b4 aP n4 m4 h1 up=>fC n4 m4 h1 (show _=some (.int .u8 9) from rfl) ?_
 refine oo rfl ?_
 refine jH (i:=0) cF rfl ?_
 refine u4 (least:=1) hv hx0 adu (hA A (by simp)) g0 h1 hb fun aZ h2 b2=>?_
 refine lL (i:=1) (j:=(p0::pr).length) cF (by simp) (by simp) (dk _) rfl rfl fun c=>?_
 rw [sE,show (p0::pr).drop 1=pr from rfl]
 rw [show cj (some false) (AV.vec pr.length c (dF pr))=.val (.int .i64 pr.length) from rfl,al]
 have pz:dA (AV.vec pr.length c (dF pr)) pr.length (dF pr):=.inr ⟨_,rfl⟩
 have aep:=hp'.len
 refine ⟨fun mm w0 w18 w19 w20 ad=>∃ i:Nat,mm=pr.length - i/\i <= pr.length/\w0=.box b 0/\w18=AV.vec pr.length c (dF pr)/\w19=.int .i64 pr.length/\w20=.int .i64 (i:Nat)/\PS b v aP (bh++gR A.kind 1 A.pr++(ts.take i).flatMap fun t=>bm ff::gR t.kind 1 t.pr) ad,⟨_,0,rfl,by omega,rfl,rfl,rfl,rfl,by simpa using h2⟩,?_⟩
 rintro mm w0 w18 w19 w20 bZ ⟨i,rfl,hi,rfl,rfl,rfl,rfl,h3⟩
 rw [bP,al]
 refine fI (fun aO=>?_) fun jo=>?_
 . have aO:i < pr.length:=by omega
   obtain ⟨q,hq⟩:∃ q,pr[i]?=some q:=⟨pr[i],by simp [aO]⟩
   obtain ⟨t,ht⟩:∃ t,ts[i]?=some t:=⟨ts[i]'(by omega),by simp [show i < ts.length by omega]⟩
   obtain ⟨g,xq,hxq,adw⟩:=hp'.nd i q t hq ht
   have Yp:=hA t (by simp [fj ht])
   refine jH pz hq ?_
   refine EG rfl rfl ?_
   have e2:(ts.take (i+1)).flatMap (fun t=>bm ff::gR t.kind 1 t.pr)=(ts.take i).flatMap (fun t=>bm ff::gR t.kind 1 t.pr)++(de [ff] [t]):=by
    rw [qU,ht]; simp [de]
   have hle:((ts.take (i+1)).flatMap (fun t=>bm ff::gR t.kind 1 t.pr)).length <= (ts.flatMap fun t=>bm ff::gR t.kind 1 t.pr).length:=by
    conv=>rhs; rw [<- List.take_append_drop (i+1) ts,List.flatMap_append,dh]
    omega
   refine cw (iN (ts:=[t]) (rest:=[]) (pl:=[q]) hv (.inr ⟨_,rfl⟩) ⟨rfl,fun j n' t' j1 j2=>?_⟩ (by simp [Yp]) rfl (by simp) (by decide) h3 ?_ fun cC h4 _=>?_)
   . match j,j1,j2 with
     | 0,j1,j2 =>
       simp at j1 j2
       subst j1 j2
       exact ⟨g,xq,hxq,adw⟩
   . rw [e2,dh] at hle
     rw [ia]
     simp only [dh] at hb b2 ⊢
     omega
   . rw [dr]
     refine ⟨bw (by omega) (by omega),pr.length - (i+1),by omega,i+1,rfl,by omega,rfl,rfl,rfl,by simp,?_⟩
     rw [e2,<- iM]; exact h4
 . have hi:i=pr.length:=by omega
   subst hi
   rw [pL (by omega)] at h3
   refine ak.mk (hk _ (up _ _ ?_))
   rw [e,<- iM]; exact h3
end
end
end Go.Rip
