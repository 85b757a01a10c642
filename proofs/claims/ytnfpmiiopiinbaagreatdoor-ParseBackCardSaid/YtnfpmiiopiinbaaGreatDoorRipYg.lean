/- Lemmas for the proof: no conditions. -/
import Derived.Test.YtnfpmiiopiinbaaGreatDoorRipZz
import Derived.Test.YtnfpmiiopiinbaaGreatDoorRipYc
import Derived.Test.YtnfpmiiopiinbaaGreatDoorRipH
import Derived.Test.YtnfpmiiopiinbaaGreatDoorRipYf
import Derived.Test.YtnfpmiiopiinbaaGreatDoorRipO
set_option linter.unusedVariables false
set_option linter.unusedSimpArgs false
set_option linter.loopingSimpArgs false
namespace Go.Rip
open Go.Proofs Go.RowKit
theorem abt:zP=opsV:=by rfl
def kh (x:Tx):List AV:=[.int .u8 x.1,.str x.2,.int .i64 0]
def oc (l:List Tx):List AV:=l.flatMap kh
theorem Kq (a b:List Tx):oc (a++b)=oc a++oc b:=by simp [oc]
theorem Vw (x:Tx):oc [x]=kh x:=by simp [oc]
def Fr (b:Nat) (U ad:St):Prop:=∀ c x,c ≠ b->U.live c=some x->(∀ t,x=.tok t->t.e ≠ 51)->ad.live c=some x
section
variable {b c:Nat} {U aq aR ad:St} {v:AV} {bp l rest:List Tx}
theorem Fr.refl (b:Nat) (U:St):Fr b U U:=fun _ _ _ h _=>h
theorem Fr.trans (h:Fr b U aR) (k:Fr b aR ad):Fr b U ad:=fun c x n e t=>k c x n (h c x n e t) t
theorem Fr.mg (h:cW U ad):Fr b U ad:=fun c x _ e _=>h c x e
theorem Fr.aX (h:Fr b U ad) (n:c ≠ b) {y:List AV} (k:U.box c=some y):ad.box c=some y:=by
 cases e:U.live c with
 | none=>simp [St.box,e] at k
 | some x =>
   rw [dy ((h c x n e ?_).trans e.symm)]; exact k
   intro t ht
   subst ht
   simp [St.box,e] at k
theorem Fr.loop (h:Fr b U ad) (n:c ≠ b) {L:fF} (k:U.loop c=some L):ad.loop c=some L:=by
 cases e:U.live c with
 | none=>simp [St.loop,e] at k
 | some x =>
   rw [fM ((h c x n e ?_).trans e.symm)]; exact k
   intro t ht
   subst ht
   simp [St.loop,e] at k
structure PS (b:Nat) (v:AV) (aq:St) (bp:List Tx) (U:St):Prop where
 box:∃ vl,U.box b=some [v,vl,opsV]/\gk (bM ⟨.e,0⟩) U vl 51 3 bp.length (oc bp)
 fr:Fr b aq U
def NT:Nat:=1000000
theorem PS.mono (h:PS b v aq bp U) (e:cW U ad):PS b v aq bp ad:=by
 obtain ⟨⟨vl,h1,h2⟩,h3⟩:=h
 exact ⟨⟨vl,e.aX h1,h2.mono e⟩,h3.trans (.mg e)⟩
theorem PS.Ds (h:PS b v aq bp U):PS b v U bp U:=⟨h.box,Fr.refl _ _⟩
theorem PS.app (h:PS b v aq bp U) (k:PS b v U l ad):PS b v aq l ad:=⟨k.box,h.fr.trans k.fr⟩
theorem Eo {x:Tx} {y:AV} {K':AV->St->Prop} {Kp:AV->St->Prop} (h:PS b v aq bp U) (hb:bp.length <= NT) (hy:y=.vec 1 .full (kh x)) {vl:AV} (iD:U.box b=some [v,vl,opsV])
 (hk:∀ ad uM,gk (bM ⟨.e,0⟩) ad uM 51 3 (bp.length+1) (oc (bp++[x]))->ad.box b=some [v,vl,opsV]->Fr b U ad->ad.live b=U.live b->K' uM ad):(eH (some (51,3)) false vl y U).wp K U K' Kp:=by
 obtain ⟨⟨uM,h1,h2⟩,h3⟩:=h
 rw [iD] at h1
 obtain rfl:vl=uM:=by simpa using h1
 subst hy
 unfold NT at hb
 refine JA h2 (m:=1) (l2:=kh x) rfl rfl (by omega) (by omega) fun ad w g k=>?_
 have jt:∀ {c z},U.live c=some z->(∀ t,z=.tok t->t.e ≠ 51)->∀ n l,vl ≠ .vec n (.own c) l:=fun hz ht n l hv=>by
  rcases h2.g with ⟨_,_,h3⟩ | ⟨τ,r1,r2,_⟩
  . rw [h3] at hv; cases hv
  . rw [r1] at hv; cases hv
    unfold St.tok at r2
    rw [hz] at r2
    split at r2
    . rename_i t e; cases e; cases r2; exact ht _ rfl rfl
    . cases r2
 have hbk:=(nG h2.g k).1 iD
 refine hk ad w (by rw [Kq,Vw]; exact g) hbk (fun c z _ hz ht=>k c z (jt hz ht) hz) ?_
 cases e:U.live b with
 | none=>exact absurd e (cj iD)
 | some z =>
   refine k b z (jt e fun t ht=>?_) e
   subst ht
   simp [St.box,e] at iD
theorem Ca {x:Tx} {vl uM:AV} {K':AV->St->Prop} {Kp:AV->St->Prop} (h:PS b v aq bp U) (hf:Fr b U ad) (iD:ad.box b=some [v,vl,opsV]) (g:gk (bM ⟨.e,0⟩) ad uM 51 3 (bp.length+1) (oc (bp++[x])))
 (hk:∀ a7,PS b v aq (bp++[x]) a7->K' (.aH []) a7):(aF (some (false,1)) (.box b 1) uM ad).wp K ad K' Kp:=by
 have hl:uM.dc=true/\au uM=[uM]:=by
  rcases g.g with ⟨h0,_,_⟩ | ⟨τ,r1,_,_⟩
  . omega
  . rw [r1]; exact ⟨rfl,rfl⟩
 rw [cI iD]
 refine ⟨⟨hl.1,by rw [hl.2]; rfl,by simp⟩,hk _ ⟨⟨uM,by rw [aV,hl.2]; rfl,?_⟩,?_⟩⟩
 . rw [df,List.length_singleton]
   refine ⟨?_,g.z,g.t,xp _⟩
   rcases g.g with g' | ⟨τ,r1,r2,r3⟩
   . exact .inl g'
   . exact .inr ⟨τ,r1,by rw [gX (eV iD r2).symm]; exact r2,r3⟩
 . refine (h.fr.trans hf).trans fun c z hc hz _=>?_
   rw [dR,if_neg hc]; exact hz
theorem Oc {x:List AV} {K':AV->St->Prop} {Kp:AV->St->Prop} (hx:x.length=3) (hk:K' (.vec 1 .full x) U):(ar (some (51,3)) (some [AV.int .u8 0,AV.str [],AV.int .i64 0]) 1 false [(0,.agg x)]).wp K U K' Kp:=by
 rw [gp]
 refine ⟨by omega,?_⟩
 rw [eG (o:=0) (s:=3) rfl]
 refine ⟨⟨rfl,hx,by simp [bN]⟩,?_⟩
 rw [ig]
 have:au (.agg x)=x:=rfl
 rw [this]
 have e:ay (bN 1 [AV.int .u8 0,AV.str [],AV.int .i64 0]) 0 x=x:=by
  match x,hx with
  | [p,q,r],_=>rfl
 rw [e]
 exact ⟨hx,hk⟩
theorem aaw {x:List AV} {k:AV->Prop} (hx:x.length=3) (hk:k (.vec 1 .full x)):aB K (ar (some (51,3)) (some [AV.int .u8 0,AV.str [],AV.int .i64 0]) 1 false [(0,.agg x)]) k:=by
 rw [ya]
 refine ⟨by omega,?_⟩
 rw [uB (o:=0) (s:=3) rfl]
 refine ⟨⟨rfl,hx,by simp [bN]⟩,?_⟩
 rw [AI]
 have:au (.agg x)=x:=rfl
 rw [this]
 have e:ay (bN 1 [AV.int .u8 0,AV.str [],AV.int .i64 0]) 0 x=x:=by
  match x,hx with
  | [p,q,r],_=>rfl
 rw [e]
 exact ⟨hx,hk⟩
theorem PS.ld (h:PS b v aq bp U):∃ vl,U.box b=some [v,vl,opsV]:=by
 obtain ⟨⟨vl,h1,_⟩,_⟩:=h
 exact ⟨vl,h1⟩
theorem UG {s:aK} {R:cR->St->Prop} (h:PS b v aq bp U) (hb:bp.length <= NT) (hk:∀ ad,PS b v aq (bp++[eF s]) ad->R (.ret (.aH [])) ad):ae K 232 [.box b 0,.str s] U R:=by
 refine R9 ?_
 unfold R8
 obtain ⟨vl,iD⟩:=h.ld
 simp only [bS,al]
 refine gj (dY iD rfl ?_)
 refine oQ [.int .u8 1,.str s,.int .i64 0] rfl ?_
 refine Oc rfl (Eo (x:=eF s) h hb rfl iD fun ad uM g yG f _=>?_)
 refine gj (Ca h f yG g fun a7 h2=>ak.mk (hk _ h2))
theorem Om:∀ (f n:Nat),n < 10 ^ f->0 < f->Lib.decDigits n=mc f n
 | 0,n,h,h0=>by omega
 | f+1,n,h,_=>by
   rw [Lib.decDigits,mc]
   by_cases h9:n < 10
   . rw [dif_pos h9,if_pos h9]
   . rw [dif_neg h9,if_neg h9]
     have hf:0 < f:=by
      cases f with
      | zero=>simp at h; omega
      | succ f=>omega
     rw [Om f (n / 10) (by rw [Nat.pow_succ] at h; omega) hf]
theorem Pu {n:Int} (h:dH n=true):Lib.itoa n=nM n:=by
 have hn:=of_decide_eq_true h
 have hp:(1000000:Nat) < 10 ^ 20:=by decide
 unfold Lib.itoa nM
 rw [if_neg (by omega),Om 20 _ (by omega) (by omega)]
theorem Nn {n:Int} {R:cR->St->Prop} (hn:dH n=true) (h:PS b v aq bp U) (hb:bp.length <= NT) (hk:∀ ad,PS b v aq (bp++[jl n]) ad->R (.ret (.aH [])) ad):ae K 234 [.box b 0,.int .i64 n] U R:=by
 refine Sd ?_
 unfold Sc
 obtain ⟨vl,iD⟩:=h.ld
 have Fh:=of_decide_eq_true hn
 simp only [bS,aJ]
 refine kJ (fK iD rfl (oF (Fx n (by omega) (by omega)) ?_))
 rw [Pu hn]
 refine aau [.int .u8 2,.str (nM n),.int .i64 0] rfl ?_
 refine aaw rfl (Eo (x:=jl n) h hb rfl iD fun ad uM g yG f oU=>⟨fun c hc=>?_,?_⟩)
 . simp only [eL,gy,cD,List.not_mem_nil,or_false] at hc
   subst hc
   exact oU
 . refine kJ (Ca h f yG g fun a7 h2=>ak.mk (hk _ h2))
theorem JD {c:UInt8} {s:aK}:aC (c::s)=(if 97 <= c.toNat/\c.toNat <= 122 then 3 else 4,c::s):=by
 unfold aC lI
 simp only [dS]
theorem UH {ws:List aK} {cp:lg} {R:cR->St->Prop} (Bp:∀ w ∈ ws,w ≠ []) (hl:ws.length <= 1000) (h:PS b v aq bp U) (hb:(bp++ws.map aC).length <= NT) (hk:∀ ad,PS b v aq (bp++ws.map aC) ad->R (.ret (.aH [])) ad):ae K 231 [.box b 0,.vec ws.length cp (ws.map .str)] U R:=by
 refine R7 ?_
 unfold R6
 rw [show cw (some false) (.vec ws.length cp (ws.map .str))=.val (.int .i64 ws.length) from rfl,al]
 refine ⟨fun m w0 w7 w8 w9 ad=>∃ i:Nat,m=ws.length - i/\i <= ws.length/\w0=.box b 0/\w7=.vec ws.length cp (ws.map .str)/\w8=.int .i64 ws.length/\w9=.int .i64 (i:Nat)/\PS b v aq (bp++(ws.take i).map aC) ad,⟨_,0,rfl,by omega,rfl,rfl,rfl,rfl,by simpa using h⟩,?_⟩
 rintro m w0 w7 w8 w9 aR ⟨i,rfl,hi,rfl,rfl,rfl,rfl,h1⟩
 rw [cb,al]
 refine gZ (fun aQ=>?_) fun kn=>?_
 . have aQ:i < ws.length:=by omega
   obtain ⟨w,hw⟩:∃ w,ws[i]=w:=⟨_,rfl⟩
   have hx:ws[i]?=some w:=by simp [aQ,hw]
   have cn:=Bp w (gh hx)
   obtain ⟨c,s,rfl⟩:∃ c s,w=c::s:=by
    cases w with
    | nil=>exact absurd rfl cn
    | cons c s=>exact ⟨c,s,rfl⟩
   have hd:(ws.map AV.str).drop i=.str (c::s)::(ws.map AV.str).drop (i+1):=by
    rw [gT (by simpa using aQ)]; simp [hw]
   rw [Cq,iZ,Nat.mul_one,hd]
   refine ⟨by omega,?_⟩
   rw [ox,bA]
   intro j hj
   have tail:∀ k:Int,k=((aC (c::s)).1:Nat)->j (.box b 0) (.str (c::s)) (.int .u8 k) (.vec ws.length cp (ws.map .str)) (.int .i64 ws.length) (.int .i64 (i:Nat)) aR:=by
    intro k Bj
    refine hj _ _ _ _ _ _ _ ?_
    obtain ⟨vl,iD⟩:=h1.ld
    simp only [bS,al]
    refine gj (dY iD rfl ?_)
    refine oQ [.int .u8 k,.str (c::s),.int .i64 0] rfl ?_
    have wz:(bp++(ws.take i).map aC).length <= NT:=by simp at hb ⊢; omega
    refine Oc rfl (Eo (x:=aC (c::s)) h1 wz (by rw [Bj]; rfl) iD fun ad uM g yG f _=>?_)
    refine gj (Ca h1 f yG g fun a7 h2=>?_)
    rw [dN]
    refine ⟨bI (by omega) (by omega),ws.length - (i+1),by omega,i+1,rfl,by omega,rfl,rfl,rfl,by simp,?_⟩
    have e:(ws.take (i+1)).map aC=(ws.take i).map aC++[aC (c::s)]:=by rw [sw,hx]; simp
    rw [e,<- gn]; exact h2
   rw [AU]
   refine ⟨by simp,?_⟩
   simp only [Int.toNat_zero,List.getD_cons_zero,il,al,bf]
   by_cases h97:(97:Int) <= (c.toNat:Int)
   . simp only [h97,du,gR,aN,cx,aJ]
     rw [GN]
     refine ⟨by simp,?_⟩
     simp only [Int.toNat_zero,List.getD_cons_zero,mA,aJ,aM,if_true,al]
     refine gZ (fun aeZ=>tail 3 ?_) fun aeZ=>tail 4 ?_
     . rw [JD,if_pos (by omega)]; rfl
     . rw [JD,if_neg (by omega)]; rfl
   . simp only [h97,eB,show (false == true)=false from rfl,aN,cF,aM,bU,if_false,al]
     refine dC (tail 4 ?_)
     rw [JD,if_neg (by omega)]; rfl
 . have hi:i=ws.length:=by omega
   subst hi
   rw [tn] at h1
   exact ak.mk (hk _ h1)
end
end Go.Rip
namespace Go.Rip
open Go.Proofs Go.RowKit
theorem FF {k:Int} (h:cq k=true):rz k=(bR k:Nat):=by
 have h:=of_decide_eq_true h
 have key:∀ n:Fin 26,rz ((n.val:Int)+9)=(bR ((n.val:Int)+9):Nat):=by decide
 have:=key ⟨(k - 9).toNat,by omega⟩
 have e:(((k - 9).toNat:Int)+9)=k:=by omega
 simp only [e] at this
 exact this
def qt (v:AV) (n:Nat) (t:Tre):Prop:=∀ (b:Nat) (aq U:St) (bp:List Tx) (R:cR->St->Prop),PS b v aq bp U->(bp++t.pr).length <= NT->(∀ ad,PS b v aq (bp++t.pr) ad->R (.ret (.aH [])) ad)->ae K 123 [.box b 0,.int .i64 (n:Nat)] U R
section
variable {b n:Nat} {U aq aR ad:St} {v:AV} {bp l rest:List Tx} {L:List Nd} {t:Tre}
theorem cT {w:aK} {K':AV->St->Prop} {Kp:AV->St->Prop} (h:K' (.vec [w].length .full ([w].map .str)) U):(ar (some (9,1)) (some [AV.str []]) 1 false [(0,(AV.str w))]).wp K U K' Kp:=acm rfl rfl rfl h
theorem pt {w u:aK} {K':AV->St->Prop} {Kp:AV->St->Prop} (h:K' (.vec [w,u].length .full ([w,u].map .str)) U):(ar (some (9,1)) (some [AV.str []]) 2 false [(0,(AV.str w)),(1,(AV.str u))]).wp K U K' Kp:=acn rfl rfl rfl rfl h
theorem Km {w u z:aK} {K':AV->St->Prop} {Kp:AV->St->Prop} (h:K' (.vec [w,u,z].length .full ([w,u,z].map .str)) U):(ar (some (9,1)) (some [AV.str []]) 3 false [(0,(AV.str w)),(1,(AV.str u)),(2,(AV.str z))]).wp K U K' Kp:=by
 rw [gp]
 refine ⟨by omega,?_⟩
 rw [eG (o:=0) (s:=1) rfl]
 refine ⟨⟨rfl,rfl,by simp [bN]⟩,?_⟩
 rw [eG (o:=1) (s:=1) rfl]
 refine ⟨⟨rfl,rfl,by simp [bN,ay,au]⟩,?_⟩
 rw [eG (o:=2) (s:=1) rfl]
 refine ⟨⟨rfl,rfl,by simp [bN,ay,au]⟩,?_⟩
 rw [ig]
 exact ⟨rfl,h⟩
theorem dK {ws:List aK} {rest:List Tx} {K':AV->St->Prop} {Kp:AV->St->Prop} (Bp:∀ w ∈ ws,w ≠ []) (hl:ws.length <= 1000) (h:PS b v aq bp U) (hb:(bp++(ws.map aC++rest)).length <= NT)
 (hk:∀ ad,PS b v aq (bp++ws.map aC) ad->((bp++ws.map aC)++rest).length <= NT->K' (.aH []) ad):ae K 231 [.box b 0,.vec ws.length .full (ws.map .str)] U (ag K' Kp) :=
 UH Bp hl h (by simp at hb ⊢; omega) fun ad h'=>hk ad h' (by simpa using hb)
theorem nv {s:aK} {rest:List Tx} {K':AV->St->Prop} {Kp:AV->St->Prop} (h:PS b v aq bp U) (hb:(bp++(eF s::rest)).length <= NT) (hk:∀ ad,PS b v aq (bp++[eF s]) ad->((bp++[eF s])++rest).length <= NT->K' (.aH []) ad):ae K 232 [.box b 0,.str s] U (ag K' Kp) :=
 UG h (by simp at hb; omega) fun ad h'=>hk ad h' (by simpa using hb)
theorem qW {m:Int} {rest:List Tx} {K':AV->St->Prop} {Kp:AV->St->Prop} (hm:dH m=true) (h:PS b v aq bp U) (hb:(bp++(jl m::rest)).length <= NT) (hk:∀ ad,PS b v aq (bp++[jl m]) ad->((bp++[jl m])++rest).length <= NT->K' (.aH []) ad):ae K 234 [.box b 0,.int .i64 m] U (ag K' Kp) :=
 Nn hm h (by simp at hb; omega) fun ad h'=>hk ad h' (by simpa using hb)
theorem sA {rest:List Tx} {K':AV->St->Prop} {Kp:AV->St->Prop} (g:qt v n t) (h:PS b v aq bp U) (hb:(bp++(t.pr++rest)).length <= NT) (hk:∀ ad,PS b v aq (bp++t.pr) ad->((bp++t.pr)++rest).length <= NT->K' (.aH []) ad):ae K 123 [.box b 0,.int .i64 (n:Nat)] U (ag K' Kp) :=
 g _ _ _ _ _ h (by simp at hb ⊢; omega) fun ad h'=>hk ad h' (by simpa using hb)
theorem YE {x:Nd} {c:AV} {o:Nat} (hv:eJ v L.length (bK L)) (hx:L[n]?=some x) (hc:(db x)[o]?=some c) (h:PS b v aq bp U) {K':AV->St->Prop} {Kp:AV->St->Prop} (hk:K' c U) :
 (aW (.box b 0)).wp K U (fun v8 U=>(af (some 0) v8).wp K U (fun v9 U=>(af (some 0) v9).wp K U (fun v10 U=>(af (some 0) v10).wp K U (fun v11 U=>(aj (some (false,1)) v11 U).wp K U (fun v12 U =>
   (aL (some (43,6)) none v12 (.int .i64 (n:Nat))).wp K U (fun ct U=>(af (some o) ct).wp K U (fun bZ U=>(aj (some (false,1)) bZ U).wp K U K' Kp) Kp) Kp) Kp) Kp) Kp) Kp) Kp:=by
 obtain ⟨vl,iD⟩:=h.ld
 simp only [bS,al]
 exact gj (gj (gj (dY iD rfl (NR (hv.Ul (U:=U)) hx hc hk))))
theorem YT {least:Nat} {x:Nd} {R:cR->St->Prop} (hv:eJ v L.length (bK L)) (hx:L[n]?=some x) (uq:x.kind=t.kind) (ht:cq t.kind=true) (g:qt v n t) (h:PS b v aq bp U) (hb:(bp++eK t.kind least t.pr).length <= NT)
 (hk:∀ ad,PS b v aq (bp++eK t.kind least t.pr) ad->R (.ret (.aH [])) ad):ae K 235 [.box b 0,.int .i64 (n:Nat),.int .i64 (least:Nat)] U R:=by
 refine Sf ?_
 unfold Se
 refine YE hv hx (show (db x)[0]?=some (.int .u8 x.kind) from rfl) h ?_
 obtain ⟨vl,iD⟩:=h.ld
 refine zD (l:=[]) iD ?_
 rw [bB,uq,FF ht,il,al]
 refine gZ (fun kn=>?_) fun aQ=>?_
 . have e:eK t.kind least t.pr=t.pr:=by unfold eK; rw [if_pos (by omega)]
   rw [e] at hb hk
   exact g _ _ _ _ _ h hb fun ad h'=>ak.mk (hk ad h')
 . have e:eK t.kind least t.pr=[cP].map aC++(t.pr++[cC].map aC):=by unfold eK; rw [if_neg (by omega)]; rfl
   rw [e] at hb hk
   refine cT (dK (by decide) (by decide) h hb fun aR h1 gQ=>?_)
   refine sA g h1 gQ fun a7 h2 gg=>?_
   refine cT (dK (rest:=[]) (by decide) (by decide) h2 (by simpa using gg) fun bO h3 _=>ak.mk (hk bO ?_))
   simpa using h3
theorem wV {least:Nat} {x:Nd} {rest:List Tx} {K':AV->St->Prop} {Kp:AV->St->Prop} (hv:eJ v L.length (bK L)) (hx:L[n]?=some x) (uq:x.kind=t.kind) (ht:cq t.kind=true) (g:qt v n t) (h:PS b v aq bp U) (hb:(bp++(eK t.kind least t.pr++rest)).length <= NT)
 (hk:∀ ad,PS b v aq (bp++eK t.kind least t.pr) ad->((bp++eK t.kind least t.pr)++rest).length <= NT->K' (.aH []) ad):ae K 235 [.box b 0,.int .i64 (n:Nat),.int .i64 (least:Nat)] U (ag K' Kp) :=
 YT hv hx uq ht g h (by simp at hb ⊢; omega) fun ad h'=>hk ad h' (by simpa using hb)
theorem Qi (w:aK) (m:List Tx):∀ {ls:List (List Tx)},ls ≠ []->dz w (ls++[m])=dz w ls++aC w::m
 | [],h=>absurd rfl h
 | l::ls,_=>by rw [ix,nI,nI]; simp
theorem Qj (w:aK) (ls:List (List Tx)) (j:Nat):(dz w (ls.take j)).length <= (dz w ls).length:=by
 cases ls with
 | nil=>simp
 | cons l ls =>
   cases j with
   | zero=>simp [dz]
   | succ j =>
     rw [List.take_succ_cons,nI,nI,df,df]
     have:(List.flatMap (fun m=>aC w::m) (ls.take j)).length <= (List.flatMap (fun m=>aC w::m) ls).length:=by
      conv=>rhs; rw [<- List.take_append_drop j ls,List.flatMap_append,df]
      omega
     omega
theorem kZ {vk:AV} {ks:List Nat} {i k e:Nat} {U:St} {K':AV->St->Prop} {Kp:AV->St->Prop} (hv:eJ vk ks.length (iY ks)) (hx:ks[i]?=some k) (h:K' (.int .i64 (k:Nat)) U) :
 (aL (some (e,1)) none vk (.int .i64 (i:Nat))).wp K U (fun p τ=>(aj (some (false,1)) p τ).wp K τ K' Kp) Kp:=by
 have aQ:=(dx.1 hx).1
 obtain ⟨r,hr⟩:=ints_at hv hx
 rw [hr,wp_cond,al,ox,bA]
 exact ⟨by omega,h⟩
theorem Ye {vk:AV} {ks:List Nat} {ts:List Tre} {R:cR->St->Prop} (dG:eJ vk ks.length (iY ks)) (hlen:ks.length=ts.length) (hl:ks.length <= 100000) (hg:∀ (i n:Nat) (t:Tre),ks[i]?=some n->ts[i]?=some t->qt v n t) (h:PS b v aq bp U)
 (hb:(bp++dz cV (ts.map Tre.pr)).length <= NT) (hk:∀ ad,PS b v aq (bp++dz cV (ts.map Tre.pr)) ad->R (.ret (.aH [])) ad):ae K 233 [.box b 0,vk] U R:=by
 refine Sb ?_
 unfold Sa
 rw [dG.len,al]
 refine ⟨fun m w0 w6 w7 w8 ad=>∃ i:Nat,m=ks.length - i/\i <= ks.length/\w0=.box b 0/\w6=vk/\w7=.int .i64 ks.length/\w8=.int .i64 (i:Nat)/\PS b v aq (bp++dz cV ((ts.map Tre.pr).take i)) ad,⟨_,0,rfl,by omega,rfl,rfl,rfl,rfl,by simpa [dz] using h⟩,?_⟩
 rintro m w0 w6 w7 w8 aR ⟨i,rfl,hi,rfl,rfl,rfl,rfl,h1⟩
 rw [cb,al]
 refine gZ (fun aQ=>?_) fun kn=>?_
 . have aQ:i < ks.length:=by omega
   obtain ⟨n,hn⟩:∃ n,ks[i]?=some n:=⟨ks[i],by simp [aQ]⟩
   obtain ⟨t,ht⟩:∃ t,ts[i]?=some t:=⟨ts[i]'(by omega),by simp [show i < ts.length by omega]⟩
   have g:=hg i n t hn ht
   have qP:(ts.map Tre.pr)[i]?=some t.pr:=by simp [ht]
   have ru:(ts.map Tre.pr).take (i+1)=(ts.map Tre.pr).take i++[t.pr]:=by rw [sw,qP]; rfl
   have hle:=Qj cV (ts.map Tre.pr) (i+1)
   have ff:=hb
   rw [df] at ff
   refine kZ dG hn ?_
   intro j hj
   have tail:∀ (tk:List Tx) (ad:St),PS b v aq tk ad->tk++t.pr=bp++dz cV ((ts.map Tre.pr).take (i+1))->j (.box b 0) (.int .i64 (n:Nat)) w6 (.int .i64 ks.length) (.int .i64 (i:Nat)) ad:=by
    intro tk ad h' e
    refine hj _ _ _ _ _ _ ?_
    refine g _ _ _ _ _ h' (by rw [e,df]; omega) fun a7 h2=>?_
    rw [bB,dN]
    exact ⟨bI (by omega) (by omega),ks.length - (i+1),by omega,i+1,rfl,by omega,rfl,rfl,rfl,by simp,by rw [<- e]; exact h2⟩
   rw [eY,al]
   refine gZ (fun wD=>?_) fun hng=>?_
   . have cn:(ts.map Tre.pr).take i ≠ []:=fun e=>by
      have:=congrArg List.length e
      rw [List.length_take,List.length_map,lB] at this; omega
     have yM:=Qi cV t.pr cn
     rw [ru] at hle tail
     rw [yM] at hle tail
     refine cT (dK (ws:=[cV]) (rest:=t.pr) (by decide) (by decide) h1 (by simp at hb hle ⊢; omega) fun a7 h2 _=>?_)
     exact tail _ a7 h2 (by simp)
   . have zq:i=0:=by omega
     subst zq
     exact tail _ aR h1 (by rw [ru]; simp [dz])
 . have hi:i=ks.length:=by omega
   subst hi
   rw [qC (by simp; omega)] at h1
   exact ak.mk (hk _ h1)
def dM:List aK->List Tre->List Tx
 | w::ws,t::ts=>aC w::(eK t.kind 1 t.pr++dM ws ts)
 | _,_=>[]
theorem vP:∀ (i:Nat) (ws:List aK) (ts:List Tre),dM ws ts=dM (ws.take i) (ts.take i)++dM (ws.drop i) (ts.drop i)
 | 0,ws,ts=>by simp [dM]
 | i+1,[],ts=>by simp [dM]
 | i+1,w::ws,[]=>by simp [dM]
 | i+1,w::ws,t::ts=>by
   rw [List.take_succ_cons,List.take_succ_cons,List.drop_succ_cons,List.drop_succ_cons,dM,dM,vP i ws ts]; simp
theorem P4 {vk:AV} {ks:List Nat} {ts:List Tre} {ws:List aK} {R:cR->St->Prop} (hv:eJ v L.length (bK L)) (dG:eJ vk ks.length (iY ks)) (hlen:ks.length=ts.length) (hwl:ws.length=ts.length) (hl:ks.length <= 100000) (Bp:∀ w ∈ ws,w ≠ [])
 (hg:∀ (i n:Nat) (t:Tre),ks[i]?=some n->ts[i]?=some t->qt v n t/\cq t.kind=true/\∃ x,L[n]?=some x/\x.kind=t.kind) (h:PS b v aq bp U)
 (hb:(bp++dM ws ts).length <= NT) (hk:∀ ad,PS b v aq (bp++dM ws ts) ad->R (.ret (.aH [])) ad):ae K 237 [.box b 0,vk,.vec ws.length .full (ws.map .str)] U R:=by
 refine Sj ?_
 unfold Si
 rw [dG.len,al]
 refine ⟨fun m w0 w2 w8 w9 Gk ad=>∃ i:Nat,m=ks.length - i/\i <= ks.length/\w0=.box b 0/\w2=.vec ws.length .full (ws.map .str)/\w8=vk/\w9=.int .i64 ks.length/\Gk=.int .i64 (i:Nat)/\PS b v aq (bp++dM (ws.take i) (ts.take i)) ad,⟨_,0,rfl,by omega,rfl,rfl,rfl,rfl,rfl,by simpa [dM] using h⟩,?_⟩
 rintro m w0 w2 w8 w9 Gk aR ⟨i,rfl,hi,rfl,rfl,rfl,rfl,rfl,h1⟩
 rw [cb,al]
 refine gZ (fun aQ=>?_) fun kn=>?_
 . have aQ:i < ks.length:=by omega
   obtain ⟨n,hn⟩:∃ n,ks[i]?=some n:=⟨ks[i],by simp [aQ]⟩
   obtain ⟨t,ht⟩:∃ t,ts[i]?=some t:=⟨ts[i]'(by omega),by simp [show i < ts.length by omega]⟩
   obtain ⟨w,hw⟩:∃ w,ws[i]?=some w:=⟨ws[i]'(by omega),by simp [show i < ws.length by omega]⟩
   obtain ⟨g,gt,x,hx,uq⟩:=hg i n t hn ht
   have hwn:=Bp w (gh hw)
   have e1:=vP i ws ts
   have ed:dM (ws.drop i) (ts.drop i)=aC w::(eK t.kind 1 t.pr++dM (ws.drop (i+1)) (ts.drop (i+1))):=by
    rw [gT (show i < ws.length by omega),gT (show i < ts.length by omega),dM]
    have a1:ws[i]'(by omega)=w:=(dx.1 hw).2
    have a2:ts[i]'(by omega)=t:=(dx.1 ht).2
    rw [a1,a2]
   have e2:=vP (i+1) ws ts
   rw [e1,ed] at hb
   have e3:dM (ws.take (i+1)) (ts.take (i+1))=dM (ws.take i) (ts.take i)++aC w::eK t.kind 1 t.pr:=by
    have:dM (ws.take (i+1)) (ts.take (i+1))++dM (ws.drop (i+1)) (ts.drop (i+1))=(dM (ws.take i) (ts.take i)++aC w::eK t.kind 1 t.pr)++dM (ws.drop (i+1)) (ts.drop (i+1)):=by
     rw [<- e2,e1,ed]; simp
    exact List.append_cancel_right this
   refine kZ dG hn ?_
   have hd:(ws.map AV.str).drop i=.str w::(ws.map AV.str).drop (i+1):=by
    rw [gT (by simp; omega)]
    have a1:ws[i]'(by omega)=w:=(dx.1 hw).2
    simp [a1]
   rw [Cq,iZ,Nat.mul_one,hd]
   refine ⟨by omega,?_⟩
   rw [ox,bA]
   refine cT (dK (ws:=[w]) (rest:=eK t.kind 1 t.pr++dM (ws.drop (i+1)) (ts.drop (i+1))) (fun u hu=>by rw [jz] at hu; subst hu; exact hwn) (by simp) h1 (by simpa using hb) fun a7 h2 gg=>?_)
   refine wV (least:=1) hv hx uq gt g h2 gg fun bO h3 _=>?_
   rw [dN]
   refine ⟨bI (by omega) (by omega),ks.length - (i+1),by omega,i+1,rfl,by omega,rfl,rfl,rfl,rfl,by simp,?_⟩
   rw [e3]
   simpa using h3
 . have hi:i=ks.length:=by omega
   subst hi
   rw [qC (by omega),qC (by omega)] at h1
   exact ak.mk (hk _ h1)
end
end Go.Rip
namespace Go.Rip
open Go.Proofs Go.RowKit
section
variable {b n:Nat} {U aq aR ad:St} {v:AV} {bp l rest:List Tx} {L:List Nd} {t:Tre}
structure fE (v:AV) (L:List Nd) (pl:List Nat) (ks:List Tre):Prop where
 len:pl.length=ks.length
 nd:∀ (i n:Nat) (t:Tre),pl[i]?=some n->ks[i]?=some t->qt v n t/\∃ x,L[n]?=some x/\x.kind=t.kind
def y9 (t:Tre) (z:Int):List AV:=[.int .u8 t.kind,.str t.text,.int .i64 t.n,.int .i64 t.m,.int .i64 t.at_,.int .i64 z]
def jx (f:FuncId) (v:AV) (t:Tre) (pl:List Nat):Prop:=∀ (b:Nat) (aq U:St) (bp:List Tx) (R:cR->St->Prop) (z:Int) (vk:AV),eJ vk pl.length (iY pl)->PS b v aq bp U->(bp++t.pr).length <= NT->(∀ ad,PS b v aq (bp++t.pr) ad->R (.ret (.aH [])) ad)->ae K f [.box b 0,.agg (y9 t z),vk] U R
theorem fE.one {pl:List Nat} {A:Tre} (h:fE v L pl [A]):∃ p,pl=[p]/\qt v p A/\∃ x,L[p]?=some x/\x.kind=A.kind:=by
 match pl,h.len with
 | [p],_=>exact ⟨p,rfl,h.nd 0 p A rfl rfl⟩
theorem fE.two {pl:List Nat} {A B:Tre} (h:fE v L pl [A,B]):∃ p q,pl=[p,q]/\(qt v p A/\∃ x,L[p]?=some x/\x.kind=A.kind)/\qt v q B/\∃ x,L[q]?=some x/\x.kind=B.kind:=by
 match pl,h.len with
 | [p,q],_=>exact ⟨p,q,rfl,h.nd 0 p A rfl rfl,h.nd 1 q B rfl rfl⟩
theorem fE.three {pl:List Nat} {A B C:Tre} (h:fE v L pl [A,B,C]):∃ p q r,pl=[p,q,r]/\(qt v p A/\∃ x,L[p]?=some x/\x.kind=A.kind)/\(qt v q B/\∃ x,L[q]?=some x/\x.kind=B.kind)/\qt v r C/\∃ x,L[r]?=some x/\x.kind=C.kind:=by
 match pl,h.len with
 | [p,q,r],_=>exact ⟨p,q,r,rfl,h.nd 0 p A rfl rfl,h.nd 1 q B rfl rfl,h.nd 2 r C rfl rfl⟩
theorem fE.app {pl:List Nat} {ks ks':List Tre} (h:fE v L pl (ks++ks')):fE v L (pl.take ks.length) ks/\fE v L (pl.drop ks.length) ks':=by
 have hl:=h.len
 rw [df] at hl
 refine ⟨⟨by rw [List.length_take]; omega,fun i n t h1 h2=>?_⟩,⟨by rw [List.length_drop]; omega,fun i n t h1 h2=>?_⟩⟩
 . have hi:=(dx.1 h2).1
   rw [List.getElem?_take,if_pos hi] at h1
   exact h.nd i n t h1 (by rw [vR hi]; exact h2)
 . rw [List.getElem?_drop] at h1
   exact h.nd _ n t h1 (by rw [List.getElem?_append_right (by omega),Nat.add_sub_cancel_left]; exact h2)
theorem fV {C:List AV} {K':AV->St->Prop} {Kp:AV->St->Prop} (h:PS b v aq bp U) (hk:∀ b4 aR,b4 ≠ b->aR.box b4=some C->PS b v aR bp aR->(∀ l ad,PS b v aR l ad->PS b v aq l ad)->K' (.box b4 0) aR):(eS (.agg C)).wp K U K' Kp:=by
 rw [fA rfl]
 intro b4 gN
 obtain ⟨vl,iD⟩:=h.ld
 have h1:=h.mono (bg gN (x:=.box (au (.agg C))))
 exact hk b4 _ (gN.bP iD).symm aG h1.Ds fun l ad h'=>h1.app h'
theorem gE {b4 o:Nat} {C:List AV} {c:AV} {tk:List Tx} {K':AV->St->Prop} {Kp:AV->St->Prop} (n4:b4 ≠ b) (m4:aR.box b4=some C) (h':PS b v aR tk ad) (hc:C[o]?=some c) (k:K' c ad) :
 (af (some o) (.box b4 0)).wp K ad (fun v8 U=>(aj (some (false,1)) v8 U).wp K U K' Kp) Kp:=by
 have aQ:=(dx.1 hc).1
 have hd:C.drop (0+o)=c::C.drop (o+1):=by
  rw [cU,gT aQ,(dx.1 hc).2]
 exact gj (dY (h'.fr.aX n4 m4) hd k)
theorem fU {bt:BT} {l:Bool} {k:IntKind} {p q:Int} {A B:AV->St->Prop} {Kp:AV->St->Prop} (h:p ≠ q) (hk:B (.bool false) U):(ax .eql bt l (.int k p) (.int k q)).wp K U (fun v U=>aw v (A v U) (B v U)) Kp:=by
 rw [br,al,decide_eq_false h]
 exact dC hk
theorem p7 {bt:BT} {l:Bool} {k:IntKind} {p q:Int} {A B:AV->St->Prop} {Kp:AV->St->Prop} (h:p=q) (hk:A (.bool true) U):(ax .eql bt l (.int k p) (.int k q)).wp K U (fun v U=>aw v (A v U) (B v U)) Kp:=by
 rw [br,al,decide_eq_true h]
 exact dP hk
theorem kf {vk:AV} {pl:List Nat} {ts:List Tre} {ws:List aK} {rest:List Tx} {K':AV->St->Prop} {Kp:AV->St->Prop} (hv:eJ v L.length (bK L)) (dG:eJ vk pl.length (iY pl)) (hp:fE v L pl ts) (htm:∀ t ∈ ts,cq t.kind=true) (hwl:ws.length=ts.length) (hl:ts.length <= 1000) (Bp:∀ w ∈ ws,w ≠ [])
 (h:PS b v aq bp U) (hb:(bp++(dM ws ts++rest)).length <= NT) (hk:∀ ad,PS b v aq (bp++dM ws ts) ad->((bp++dM ws ts)++rest).length <= NT->K' (.aH []) ad):ae K 237 [.box b 0,vk,.vec ws.length .full (ws.map .str)] U (ag K' Kp) :=
 P4 hv dG hp.len hwl (by have:=hp.len; omega) Bp (fun i n t h1 h2=>⟨(hp.nd i n t h1 h2).1,htm t (gh h2),(hp.nd i n t h1 h2).2⟩) h (by simp at hb ⊢; omega) fun ad h'=>hk ad h' (by simpa using hb)
theorem AL {vk:AV} {pl:List Nat} {ts:List Tre} {rest:List Tx} {K':AV->St->Prop} {Kp:AV->St->Prop} (dG:eJ vk pl.length (iY pl)) (hp:fE v L pl ts) (hl:ts.length <= 1000) (h:PS b v aq bp U)
 (hb:(bp++(dz cV (ts.map Tre.pr)++rest)).length <= NT) (hk:∀ ad,PS b v aq (bp++dz cV (ts.map Tre.pr)) ad->((bp++dz cV (ts.map Tre.pr))++rest).length <= NT->K' (.aH []) ad):ae K 233 [.box b 0,vk] U (ag K' Kp) :=
 Ye dG hp.len (by have:=hp.len; omega) (fun i n t h1 h2=>(hp.nd i n t h1 h2).1) h (by simp at hb ⊢; omega) fun ad h'=>hk ad h' (by simpa using hb)
theorem nX {vk:AV} {pl:List Nat} (hv:eJ vk pl.length (iY pl)) (h0:pl ≠ []) {i j:Nat} (fP:i <= j) (hj:j <= pl.length) {hi:Option AV} (hhi:eh pl.length hi=some (j:Int)) {lo:Option AV} (hlo:eh 0 lo=some (i:Int)) {K':AV->St->Prop} {Kp:AV->St->Prop}
 (hk:∀ c,K' (.vec ((pl.take j).drop i).length c (iY ((pl.take j).drop i))) U):(fG false (some (3,1)) vk lo hi).wp K U K' Kp:=by
 rcases hv with ⟨h1,_,_⟩ | ⟨c,rfl⟩
 . exact absurd (sv.1 h1) h0
 . rw [Ac,hhi,hlo]
   simp only [iZ,Nat.mul_one]
   have:j - i=((pl.take j).drop i).length:=by simp; omega
   rw [this,wp_cond,al]
   have e:((iY pl).take j).drop i=iY ((pl.take j).drop i):=by simp [iY,List.map_take,List.map_drop]
   rw [e]
   exact ⟨by omega,hk _⟩
section
variable {x:aK} {nn m a:Int} {pl:List Nat}
theorem XS {A B C:Tre} (hv:eJ v L.length (bK L)) (hp:fE v L pl [A,B,C]) (hA:cq A.kind=true) (hB:cq B.kind=true) (hC:cq C.kind=true):jx 184 v (.mk 10 x nn m a [A,B,C]) pl:=by
 intro b aq U bp R z vk dG h hb hk
 have e:(Tre.mk 10 x nn m a [A,B,C]).pr=dM [oe,oy,eU] [A,B,C]++[]:=by rw [Tre.fi]; simp [bw,dM]
 rw [e] at hb
 refine po ?_
 unfold s0
 refine fV h fun b4 aR n4 m4 h1 up=>gE n4 m4 h1 (show _=some (.int .u8 10) from rfl) ?_
 refine fU (by decide) (p7 rfl ?_)
 refine Km (kf hv dG hp (by simp [hA,hB,hC]) rfl (by simp) (by decide) h1 hb fun a7 h2 _=>ak.mk (hk _ (up _ _ ?_)))
 rw [e,gy]; exact h2
theorem Hu {k:Int} {w u:aK} {A B:Tre} (Ff:(k,w,u) ∈ [((11:Int),fW,sE),(15,gq,eU)]) (hv:eJ v L.length (bK L)) (hp:fE v L pl [A,B]) (hA:cq A.kind=true) (hB:cq B.kind=true):jx 184 v (.mk k x nn m a [A,B]) pl:=by
 intro b aq U bp R z vk dG h hb hk
 have Bp:∀ y ∈ [w,u],y ≠ []:=by
  simp only [cD,List.not_mem_nil,or_false,jA] at Ff
  rcases Ff with ⟨_,rfl,rfl⟩ | ⟨_,rfl,rfl⟩ <;> decide
 have e:(Tre.mk k x nn m a [A,B]).pr=dM [w,u] [A,B]++[]:=by
  rw [Tre.fi]
  simp only [cD,List.not_mem_nil,or_false,jA] at Ff
  rcases Ff with ⟨rfl,rfl,rfl⟩ | ⟨rfl,rfl,rfl⟩ <;> simp [bw,dM]
 rw [e] at hb
 refine po ?_
 unfold s0
 refine fV h fun b4 aR n4 m4 h1 up=>gE n4 m4 h1 (show _=some (.int .u8 k) from rfl) ?_
 have fin:=fun (a7:St) (h2:PS b v aR (bp++dM [w,u] [A,B]) a7)=>hk a7 (up _ _ (by rw [e,gy]; exact h2))
 simp only [cD,List.not_mem_nil,or_false,jA] at Ff
 rcases Ff with ⟨rfl,rfl,rfl⟩ | ⟨rfl,rfl,rfl⟩
 . refine fU (by decide) (fU (by decide) (p7 rfl ?_))
   exact pt (kf hv dG hp (by simp [hA,hB]) rfl (by simp) Bp h1 hb fun a7 h2 _=>ak.mk (fin _ h2))
 . refine fU (by decide) (fU (by decide) (fU (by decide) (p7 rfl ?_)))
   exact pt (kf hv dG hp (by simp [hA,hB]) rfl (by simp) Bp h1 hb fun a7 h2 _=>ak.mk (fin _ h2))
theorem Tw {A:Tre} (hn:dH nn=true) (hm:dH m=true) (hv:eJ v L.length (bK L)) (hp:fE v L pl [A]) (hA:cq A.kind=true):jx 184 v (.mk 12 x nn m a [A]) pl:=by
 intro b aq U bp R z vk dG h hb hk
 have e:(Tre.mk 12 x nn m a [A]).pr=[kQ].map aC++(eF x::([ez].map aC++(jl nn::([bV].map aC++(jl m::(dM [kK] [A]++[])))))):=by rw [Tre.fi]; simp [bw,dM]
 rw [e] at hb
 refine po ?_
 unfold s0
 refine fV h fun b4 aR n4 m4 h1 up=>gE n4 m4 h1 (show _=some (.int .u8 12) from rfl) ?_
 refine fU (by decide) (fU (by decide) (fU (by decide) (fU (by decide) (p7 rfl ?_))))
 refine cT (dK (by decide) (by decide) h1 hb fun a7 h2 b2=>gE n4 m4 h2 rfl ?_)
 refine nv h2 b2 fun bO h3 b3=>?_
 refine cT (dK (by decide) (by decide) h3 b3 fun cG h4 qH=>gE n4 m4 h4 rfl ?_)
 refine qW hn h4 qH fun di h5 b5=>?_
 refine cT (dK (by decide) (by decide) h5 b5 fun mK h6 b6=>gE n4 m4 h6 rfl ?_)
 refine qW hm h6 b6 fun jo h7 b7=>?_
 refine cT (kf hv dG hp (by simp [hA]) rfl (by simp) (by decide) h7 b7 fun vA h8 _=>ak.mk (hk _ (up _ _ ?_)))
 rw [e]; simpa [Tre.text,Tre.n,Tre.m] using h8
theorem Mg {A B:Tre} (hv:eJ v L.length (bK L)) (hp:fE v L pl [A,B]) (hA:cq A.kind=true) (hB:cq B.kind=true):jx 184 v (.mk 13 x nn m a [A,B]) pl:=by
 intro b aq U bp R z vk dG h hb hk
 have e:(Tre.mk 13 x nn m a [A,B]).pr=[ij].map aC++(eF x::(dM [kK,eU] [A,B]++[])):=by rw [Tre.fi]; simp [bw,dM]
 rw [e] at hb
 refine po ?_
 unfold s0
 refine fV h fun b4 aR n4 m4 h1 up=>gE n4 m4 h1 (show _=some (.int .u8 13) from rfl) ?_
 refine fU (by decide) (fU (by decide) (fU (by decide) (fU (by decide) (fU (by decide) (p7 rfl ?_)))))
 refine cT (dK (by decide) (by decide) h1 hb fun a7 h2 b2=>gE n4 m4 h2 rfl ?_)
 refine nv h2 b2 fun bO h3 b3=>?_
 refine pt (kf hv dG hp (by simp [hA,hB]) rfl (by simp) (by decide) h3 b3 fun vA h8 _=>ak.mk (hk _ (up _ _ ?_)))
 rw [e]; simpa [Tre.text,Tre.n,Tre.m] using h8
theorem Ty {A:Tre} (hv:eJ v L.length (bK L)) (hp:fE v L pl [A]) (hA:cq A.kind=true):jx 184 v (.mk 16 x nn m a [A]) pl:=by
 intro b aq U bp R z vk dG h hb hk
 have e:(Tre.mk 16 x nn m a [A]).pr=eF x::(dM [bV] [A]++[]):=by rw [Tre.fi]; simp [bw,dM]
 rw [e] at hb
 refine po ?_
 unfold s0
 refine fV h fun b4 aR n4 m4 h1 up=>gE n4 m4 h1 (show _=some (.int .u8 16) from rfl) ?_
 refine fU (by decide) (fU (by decide) (fU (by decide) (fU (by decide) (fU (by decide) (fU (by decide) (p7 rfl ?_))))))
 refine gE n4 m4 h1 rfl ?_
 refine nv h1 hb fun bO h3 b3=>?_
 refine cT (kf hv dG hp (by simp [hA]) rfl (by simp) (by decide) h3 b3 fun vA h8 _=>ak.mk (hk _ (up _ _ ?_)))
 rw [e]; simpa [Tre.text,Tre.n,Tre.m] using h8
theorem JS {A:Tre} (hn:dH nn=true) (hv:eJ v L.length (bK L)) (hp:fE v L pl [A]) (hA:cq A.kind=true):jx 184 v (.mk 14 x nn m a [A]) pl:=by
 intro b aq U bp R z vk dG h hb hk
 have e:(Tre.mk 14 x nn m a [A]).pr=[hZ].map aC++(eF x::([bV].map aC++(jl nn::(dM [kK] [A]++[])))):=by rw [Tre.fi]; simp [bw,dM]
 rw [e] at hb
 refine po ?_
 unfold s0
 refine fV h fun b4 aR n4 m4 h1 up=>gE n4 m4 h1 (show _=some (.int .u8 14) from rfl) ?_
 refine fU (by decide) (fU (by decide) (fU (by decide) (fU (by decide) (fU (by decide) (fU (by decide) (fU (by decide) (p7 rfl ?_)))))))
 refine cT (dK (by decide) (by decide) h1 hb fun a7 h2 b2=>gE n4 m4 h2 rfl ?_)
 refine nv h2 b2 fun bO h3 b3=>?_
 refine cT (dK (by decide) (by decide) h3 b3 fun cG h4 qH=>gE n4 m4 h4 rfl ?_)
 refine qW hn h4 qH fun di h5 b5=>?_
 refine cT (kf hv dG hp (by simp [hA]) rfl (by simp) (by decide) h5 b5 fun vA h8 _=>ak.mk (hk _ (up _ _ ?_)))
 rw [e]; simpa [Tre.text,Tre.n,Tre.m] using h8
theorem YK:∀ (A:Tre) (ts:List Tre),dz cH ((A::ts).map fun t=>eK t.kind 1 t.pr)=eK A.kind 1 A.pr++ts.flatMap fun t=>aC cH::eK t.kind 1 t.pr:=by
 intro A ts
 rw [eC,nI,List.flatMap_map]
theorem Tz {A:Tre} {ts:List Tre} (CO:ts.length <= 900) (hv:eJ v L.length (bK L)) (hp:fE v L pl (A::ts)) (hA:∀ t ∈ A::ts,cq t.kind=true):jx 184 v (.mk 9 x nn m a (A::ts)) pl:=by
 intro b aq U bp R z vk dG h hb hk
 have e:(Tre.mk 9 x nn m a (A::ts)).pr=eK A.kind 1 A.pr++ts.flatMap fun t=>aC cH::eK t.kind 1 t.pr:=by
  rw [Tre.fi,<- YK]
  simp only [bw,List.map_map]; rfl
 rw [e] at hb
 have hlen:=hp.len
 obtain ⟨p0,pr,rfl⟩:∃ p r,pl=p::r:=by
  cases pl with
  | nil=>simp at hlen
  | cons p r=>exact ⟨p,r,rfl⟩
 obtain ⟨g0,x0,hx0,afB⟩:=hp.nd 0 p0 A rfl rfl
 have Wf:fE v L pr ts:=(fE.app (ks:=[A]) hp).2
 refine po ?_
 unfold s0
 refine fV h fun b4 aR n4 m4 h1 up=>gE n4 m4 h1 (show _=some (.int .u8 9) from rfl) ?_
 refine p7 rfl ?_
 refine kZ (i:=0) dG rfl ?_
 refine wV (least:=1) hv hx0 afB (hA A (by simp)) g0 h1 hb fun a7 h2 b2=>?_
 refine nX (i:=1) (j:=(p0::pr).length) dG (by simp) (by simp) (cX _) rfl rfl fun c=>?_
 rw [tn,show (p0::pr).drop 1=pr from rfl]
 rw [show cw (some false) (AV.vec pr.length c (iY pr))=.val (.int .i64 pr.length) from rfl,al]
 have zx:eJ (AV.vec pr.length c (iY pr)) pr.length (iY pr):=.inr ⟨_,rfl⟩
 have agH:=Wf.len
 refine ⟨fun mm w0 w18 w19 w20 ad=>∃ i:Nat,mm=pr.length - i/\i <= pr.length/\w0=.box b 0/\w18=AV.vec pr.length c (iY pr)/\w19=.int .i64 pr.length/\w20=.int .i64 (i:Nat)/\PS b v aR (bp++eK A.kind 1 A.pr++(ts.take i).flatMap fun t=>aC cH::eK t.kind 1 t.pr) ad,⟨_,0,rfl,by omega,rfl,rfl,rfl,rfl,by simpa using h2⟩,?_⟩
 rintro mm w0 w18 w19 w20 bO ⟨i,rfl,hi,rfl,rfl,rfl,rfl,h3⟩
 rw [cb,al]
 refine gZ (fun aQ=>?_) fun kn=>?_
 . have aQ:i < pr.length:=by omega
   obtain ⟨q,hq⟩:∃ q,pr[i]?=some q:=⟨pr[i],by simp [aQ]⟩
   obtain ⟨t,ht⟩:∃ t,ts[i]?=some t:=⟨ts[i]'(by omega),by simp [show i < ts.length by omega]⟩
   obtain ⟨g,xq,hxq,afC⟩:=Wf.nd i q t hq ht
   have htm:=hA t (by simp [gh ht])
   refine kZ zx hq ?_
   refine NQ rfl rfl ?_
   have e2:(ts.take (i+1)).flatMap (fun t=>aC cH::eK t.kind 1 t.pr)=(ts.take i).flatMap (fun t=>aC cH::eK t.kind 1 t.pr)++(dM [cH] [t]):=by
    rw [sw,ht]; simp [dM]
   have hle:((ts.take (i+1)).flatMap (fun t=>aC cH::eK t.kind 1 t.pr)).length <= (ts.flatMap fun t=>aC cH::eK t.kind 1 t.pr).length:=by
    conv=>rhs; rw [<- List.take_append_drop (i+1) ts,List.flatMap_append,df]
    omega
   refine cT (kf (ts:=[t]) (rest:=[]) (pl:=[q]) hv (.inr ⟨_,rfl⟩) ⟨rfl,fun j n' t' j1 j2=>?_⟩ (by simp [htm]) rfl (by simp) (by decide) h3 ?_ fun cG h4 _=>?_)
   . match j,j1,j2 with
     | 0,j1,j2 =>
       simp at j1 j2
       subst j1 j2
       exact ⟨g,xq,hxq,afC⟩
   . rw [e2,df] at hle
     rw [gy]
     simp only [df] at hb b2 ⊢
     omega
   . rw [dN]
     refine ⟨bI (by omega) (by omega),pr.length - (i+1),by omega,i+1,rfl,by omega,rfl,rfl,rfl,by simp,?_⟩
     rw [e2,<- gn]; exact h4
 . have hi:i=pr.length:=by omega
   subst hi
   rw [qC (by omega)] at h3
   refine ak.mk (hk _ (up _ _ ?_))
   rw [e,<- gn]; exact h3
end
end
end Go.Rip
