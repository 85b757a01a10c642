/- Lemmas for the proof: no conditions. -/
import Derived.Test.YtnfpmiiopiinbaaGreatDoorRipZz
import Derived.Test.YtnfpmiiopiinbaaGreatDoorRipYc
import Derived.Test.YtnfpmiiopiinbaaGreatDoorRipH
import Derived.Test.YtnfpmiiopiinbaaGreatDoorRipYe
import Derived.Test.YtnfpmiiopiinbaaGreatDoorRipO
set_option linter.unusedVariables false
set_option linter.unusedSimpArgs false
set_option linter.loopingSimpArgs false
namespace Go.Rip
open Go.Proofs Go.RowKit
theorem aax:L5=opsV:=by rfl
def jL (x:Tx):List AV:=[.int .u8 x.1,.str x.2,.int .i64 0]
def mV (l:List Tx):List AV:=l.flatMap jL
theorem JM (a b:List Tx):mV (a++b)=mV a++mV b:=by simp [mV]
theorem Ue (x:Tx):mV [x]=jL x:=by simp [mV]
def Fr (b:Nat) (U af:St):Prop:=∀ c x,c ≠ b->U.live c=some x->(∀ t,x=.tok t->t.e ≠ 51)->af.live c=some x
section
variable {b c:Nat} {U aw aQ af:St} {v:AV} {aL l rest:List Tx}
theorem Fr.refl (b:Nat) (U:St):Fr b U U:=fun _ _ _ h _=>h
theorem Fr.trans (h:Fr b U aQ) (k:Fr b aQ af):Fr b U af:=fun c x n e t=>k c x n (h c x n e t) t
theorem Fr.tM (h:dD U af):Fr b U af:=fun c x _ e _=>h c x e
theorem Fr.bo (h:Fr b U af) (n:c ≠ b) {y:List AV} (k:U.box c=some y):af.box c=some y:=by
 cases e:U.live c with
 | none=>simp [St.box,e] at k
 | some x =>
   rw [fE ((h c x n e ?_).trans e.symm)]; exact k
   intro t ht
   subst ht
   simp [St.box,e] at k
structure PS (b:Nat) (v:AV) (aw:St) (aL:List Tx) (U:St):Prop where
 box:∃ vl,U.box b=some [v,vl,opsV]/\fW (bJ ⟨.e,0⟩) U vl 51 3 aL.length (mV aL)
 fr:Fr b aw U
def NT:Nat:=1000000
theorem PS.mono (h:PS b v aw aL U) (e:dD U af):PS b v aw aL af:=by
 obtain ⟨⟨vl,h1,h2⟩,h3⟩:=h
 exact ⟨⟨vl,e.bo h1,h2.mono e⟩,h3.trans (.tM e)⟩
theorem PS.wi (h:PS b v aw aL U):PS b v U aL U:=⟨h.box,Fr.refl _ _⟩
theorem PS.app (h:PS b v aw aL U) (k:PS b v U l af):PS b v aw l af:=⟨k.box,h.fr.trans k.fr⟩
theorem DX {x:Tx} {y:AV} {K':AV->St->Prop} {Kp:AV->St->Prop} (h:PS b v aw aL U) (hb:aL.length <= NT) (hy:y=.vec 1 .full (jL x)) {vl:AV} (fP:U.box b=some [v,vl,opsV])
 (hk:∀ af tX,fW (bJ ⟨.e,0⟩) af tX 51 3 (aL.length+1) (mV (aL++[x]))->af.box b=some [v,vl,opsV]->Fr b U af->af.live b=U.live b->K' tX af):(eu (some (51,3)) false vl y U).wp K U K' Kp:=by
 obtain ⟨⟨tX,h1,h2⟩,h3⟩:=h
 rw [fP] at h1
 obtain rfl:vl=tX:=by simpa using h1
 subst hy
 unfold NT at hb
 refine wx h2 (m:=1) (l2:=jL x) rfl rfl (by omega) (by omega) fun af w g k=>?_
 have js:∀ {c z},U.live c=some z->(∀ t,z=.tok t->t.e ≠ 51)->∀ n l,vl ≠ .vec n (.own c) l:=fun hz ht n l hv=>by
  rcases h2.g with ⟨_,_,h3⟩ | ⟨τ,r1,r2,_⟩
  . rw [h3] at hv; cases hv
  . rw [r1] at hv; cases hv
    unfold St.tok at r2
    rw [hz] at r2
    split at r2
    . rename_i t e; cases e; cases r2; exact ht _ rfl rfl
    . cases r2
 have UG:=(lj h2.g k).1 fP
 refine hk af w (by rw [JM,Ue]; exact g) UG (fun c z _ hz ht=>k c z (js hz ht) hz) ?_
 cases e:U.live b with
 | none=>exact absurd e (dc fP)
 | some z =>
   refine k b z (js e fun t ht=>?_) e
   subst ht
   simp [St.box,e] at fP
theorem BG {x:Tx} {vl tX:AV} {K':AV->St->Prop} {Kp:AV->St->Prop} (h:PS b v aw aL U) (hf:Fr b U af) (fP:af.box b=some [v,vl,opsV]) (g:fW (bJ ⟨.e,0⟩) af tX 51 3 (aL.length+1) (mV (aL++[x])))
 (hk:∀ bg,PS b v aw (aL++[x]) bg->K' (.aG []) bg):(aU (some (false,1)) (.box b 1) tX af).wp K af K' Kp:=by
 have hl:tX.eF=true/\aC tX=[tX]:=by
  rcases g.g with ⟨h0,_,_⟩ | ⟨τ,r1,_,_⟩
  . omega
  . rw [r1]; exact ⟨rfl,rfl⟩
 rw [dP fP]
 refine ⟨⟨hl.1,by rw [hl.2]; rfl,by simp⟩,hk _ ⟨⟨tX,by rw [bD,hl.2]; rfl,?_⟩,?_⟩⟩
 . rw [cZ,List.length_singleton]
   refine ⟨?_,g.z,g.t,sR _⟩
   rcases g.g with g' | ⟨τ,r1,r2,r3⟩
   . exact .inl g'
   . exact .inr ⟨τ,r1,by rw [il (gg fP r2).symm]; exact r2,r3⟩
 . refine (h.fr.trans hf).trans fun c z hc hz _=>?_
   rw [dy,if_neg hc]; exact hz
theorem MW {x:List AV} {K':AV->St->Prop} {Kp:AV->St->Prop} (hx:x.length=3) (hk:K' (.vec 1 .full x) U):(aJ (some (51,3)) (some [AV.int .u8 0,AV.str [],AV.int .i64 0]) 1 false [(0,.agg x)]).wp K U K' Kp:=by
 rw [jo]
 refine ⟨by omega,?_⟩
 rw [iY (o:=0) (s:=3) rfl]
 refine ⟨⟨rfl,hx,by simp [cN]⟩,?_⟩
 rw [kY]
 have:aC (.agg x)=x:=rfl
 rw [this]
 have e:aK (cN 1 [AV.int .u8 0,AV.str [],AV.int .i64 0]) 0 x=x:=by
  match x,hx with
  | [p,q,r],_=>rfl
 rw [e]
 exact ⟨hx,hk⟩
theorem Y5 {x:List AV} {k:AV->Prop} (hx:x.length=3) (hk:k (.vec 1 .full x)):aF K (aJ (some (51,3)) (some [AV.int .u8 0,AV.str [],AV.int .i64 0]) 1 false [(0,.agg x)]) k:=by
 rw [BH]
 refine ⟨by omega,?_⟩
 rw [wh (o:=0) (s:=3) rfl]
 refine ⟨⟨rfl,hx,by simp [cN]⟩,?_⟩
 rw [DZ]
 have:aC (.agg x)=x:=rfl
 rw [this]
 have e:aK (cN 1 [AV.int .u8 0,AV.str [],AV.int .i64 0]) 0 x=x:=by
  match x,hx with
  | [p,q,r],_=>rfl
 rw [e]
 exact ⟨hx,hk⟩
theorem PS.ld (h:PS b v aw aL U):∃ vl,U.box b=some [v,vl,opsV]:=by
 obtain ⟨⟨vl,h1,_⟩,_⟩:=h
 exact ⟨vl,h1⟩
theorem S9 {s:aY} {R:cO->St->Prop} (h:PS b v aw aL U) (hb:aL.length <= NT) (hk:∀ af,PS b v aw (aL++[dM s]) af->R (.ret (.aG [])) af):ag K 232 [.box b 0,.str s] U R:=by
 refine Rj ?_
 unfold Ri
 obtain ⟨vl,fP⟩:=h.ld
 simp only [eo,al]
 refine fe (dj fP rfl ?_)
 refine rL [.int .u8 1,.str s,.int .i64 0] rfl ?_
 refine MW rfl (DX (x:=dM s) h hb rfl fP fun af tX g oO f _=>?_)
 refine fe (BG h f oO g fun bg h2=>aj.mk (hk _ h2))
theorem M7:∀ (f n:Nat),n < 10 ^ f->0 < f->Lib.decDigits n=jg f n
 | 0,n,h,h0=>by omega
 | f+1,n,h,_=>by
   rw [Lib.decDigits,jg]
   by_cases h9:n < 10
   . rw [dif_pos h9,if_pos h9]
   . rw [dif_neg h9,if_neg h9]
     have hf:0 < f:=by
      cases f with
      | zero=>simp at h; omega
      | succ f=>omega
     rw [M7 f (n / 10) (by rw [Nat.pow_succ] at h; omega) hf]
theorem Oe {n:Int} (h:eg n=true):Lib.itoa n=j6 n:=by
 have hn:=of_decide_eq_true h
 have hp:(1000000:Nat) < 10 ^ 20:=by decide
 unfold Lib.itoa j6
 rw [if_neg (by omega),M7 20 _ (by omega) (by omega)]
theorem Ma {n:Int} {R:cO->St->Prop} (hn:eg n=true) (h:PS b v aw aL U) (hb:aL.length <= NT) (hk:∀ af,PS b v aw (aL++[iC n]) af->R (.ret (.aG [])) af):ag K 234 [.box b 0,.int .i64 n] U R:=by
 refine Rp ?_
 unfold Rm
 obtain ⟨vl,fP⟩:=h.ld
 have hn':=of_decide_eq_true hn
 simp only [eo,ax]
 refine hU (dz fP rfl (gV (EU n (by omega) (by omega)) ?_))
 rw [Oe hn]
 refine Y3 [.int .u8 2,.str (j6 n),.int .i64 0] rfl ?_
 refine Y5 rfl (DX (x:=iC n) h hb rfl fP fun af tX g oO f pT=>⟨fun c hc=>?_,?_⟩)
 . simp only [dK,gw,cF,List.not_mem_nil,or_false] at hc
   subst hc
   exact pT
 . refine hU (BG h f oO g fun bg h2=>aj.mk (hk _ h2))
theorem IM {c:UInt8} {s:aY}:aP (c::s)=(if 97 <= c.toNat/\c.toNat <= 122 then 3 else 4,c::s):=by
 unfold aP jx
 simp only [da]
theorem Ta {ws:List aY} {cp:nY} {R:cO->St->Prop} (AZ:∀ w ∈ ws,w ≠ []) (hl:ws.length <= 1000) (h:PS b v aw aL U) (hb:(aL++ws.map aP).length <= NT) (hk:∀ af,PS b v aw (aL++ws.map aP) af->R (.ret (.aG [])) af):ag K 231 [.box b 0,.vec ws.length cp (ws.map .str)] U R:=by
 refine Rh ?_
 unfold Rf
 rw [show br (some false) (.vec ws.length cp (ws.map .str))=.val (.int .i64 ws.length) from rfl,al]
 refine ⟨fun m w0 w7 w8 w9 af=>∃ i:Nat,m=ws.length - i/\i <= ws.length/\w0=.box b 0/\w7=.vec ws.length cp (ws.map .str)/\w8=.int .i64 ws.length/\w9=.int .i64 (i:Nat)/\PS b v aw (aL++(ws.take i).map aP) af,⟨_,0,rfl,by omega,rfl,rfl,rfl,rfl,by simpa using h⟩,?_⟩
 rintro m w0 w7 w8 w9 aQ ⟨i,rfl,hi,rfl,rfl,rfl,rfl,h1⟩
 rw [a7,al]
 refine cu (fun aM=>?_) fun gq=>?_
 . have aM:i < ws.length:=by omega
   obtain ⟨w,hw⟩:∃ w,ws[i]=w:=⟨_,rfl⟩
   have hx:ws[i]?=some w:=by simp [aM,hw]
   have cV:=AZ w (fl hx)
   obtain ⟨c,s,rfl⟩:∃ c s,w=c::s:=by
    cases w with
    | nil=>exact absurd rfl cV
    | cons c s=>exact ⟨c,s,rfl⟩
   have hd:(ws.map AV.str).drop i=.str (c::s)::(ws.map AV.str).drop (i+1):=by
    rw [fU (by simpa using aM)]; simp [hw]
   rw [ua,dL,Nat.mul_one,hd]
   refine ⟨by omega,?_⟩
   rw [mB,bN]
   intro j hj
   have tail:∀ k:Int,k=((aP (c::s)).1:Nat)->j (.box b 0) (.str (c::s)) (.int .u8 k) (.vec ws.length cp (ws.map .str)) (.int .i64 ws.length) (.int .i64 (i:Nat)) aQ:=by
    intro k hk'
    refine hj _ _ _ _ _ _ _ ?_
    obtain ⟨vl,fP⟩:=h1.ld
    simp only [eo,al]
    refine fe (dj fP rfl ?_)
    refine rL [.int .u8 k,.str (c::s),.int .i64 0] rfl ?_
    have yg:(aL++(ws.take i).map aP).length <= NT:=by simp at hb ⊢; omega
    refine MW rfl (DX (x:=aP (c::s)) h1 yg (by rw [hk']; rfl) fP fun af tX g oO f _=>?_)
    refine fe (BG h1 f oO g fun bg h2=>?_)
    rw [cr]
    refine ⟨aW (by omega) (by omega),ws.length - (i+1),by omega,i+1,rfl,by omega,rfl,rfl,rfl,by simp,?_⟩
    have e:(ws.take (i+1)).map aP=(ws.take i).map aP++[aP (c::s)]:=by rw [lM,hx]; simp
    rw [e,<- kI]; exact h2
   rw [qC]
   refine ⟨by simp,?_⟩
   simp only [Int.toNat_zero,List.getD_cons_zero,dT,al,aI]
   by_cases Zu:(97:Int) <= (c.toNat:Int)
   . simp only [Zu,bZ,dN,aB,bq,ax]
     rw [rz]
     refine ⟨by simp,?_⟩
     simp only [Int.toNat_zero,List.getD_cons_zero,fD,ax,az,if_true,al]
     refine cu (fun ad7=>tail 3 ?_) fun ad7=>tail 4 ?_
     . rw [IM,if_pos (by omega)]; rfl
     . rw [IM,if_neg (by omega)]; rfl
   . simp only [Zu,cE,show (false == true)=false from rfl,aB,aZ,az,bC,if_false,al]
     refine bO (tail 4 ?_)
     rw [IM,if_neg (by omega)]; rfl
 . have hi:i=ws.length:=by omega
   subst hi
   rw [oq] at h1
   exact aj.mk (hk _ h1)
end
end Go.Rip
namespace Go.Rip
open Go.Proofs Go.RowKit
theorem E6 {k:Int} (h:cD k=true):qm k=(dk k:Nat):=by
 have h:=of_decide_eq_true h
 have key:∀ n:Fin 26,qm ((n.val:Int)+9)=(dk ((n.val:Int)+9):Nat):=by decide
 have:=key ⟨(k - 9).toNat,by omega⟩
 have e:(((k - 9).toNat:Int)+9)=k:=by omega
 simp only [e] at this
 exact this
def pD (v:AV) (n:Nat) (t:Tre):Prop:=∀ (b:Nat) (aw U:St) (aL:List Tx) (R:cO->St->Prop),PS b v aw aL U->(aL++t.pr).length <= NT->(∀ af,PS b v aw (aL++t.pr) af->R (.ret (.aG [])) af)->ag K 123 [.box b 0,.int .i64 (n:Nat)] U R
section
variable {b n:Nat} {U aw aQ af:St} {v:AV} {aL l rest:List Tx} {L:List Nd} {t:Tre}
theorem cW {w:aY} {K':AV->St->Prop} {Kp:AV->St->Prop} (h:K' (.vec [w].length .full ([w].map .str)) U):(aJ (some (9,1)) (some [AV.str []]) 1 false [(0,(AV.str w))]).wp K U K' Kp:=abl rfl rfl rfl h
theorem ow {w u:aY} {K':AV->St->Prop} {Kp:AV->St->Prop} (h:K' (.vec [w,u].length .full ([w,u].map .str)) U):(aJ (some (9,1)) (some [AV.str []]) 2 false [(0,(AV.str w)),(1,(AV.str u))]).wp K U K' Kp:=abm rfl rfl rfl rfl h
theorem JJ {w u z:aY} {K':AV->St->Prop} {Kp:AV->St->Prop} (h:K' (.vec [w,u,z].length .full ([w,u,z].map .str)) U):(aJ (some (9,1)) (some [AV.str []]) 3 false [(0,(AV.str w)),(1,(AV.str u)),(2,(AV.str z))]).wp K U K' Kp:=by
 rw [jo]
 refine ⟨by omega,?_⟩
 rw [iY (o:=0) (s:=1) rfl]
 refine ⟨⟨rfl,rfl,by simp [cN]⟩,?_⟩
 rw [iY (o:=1) (s:=1) rfl]
 refine ⟨⟨rfl,rfl,by simp [cN,aK,aC]⟩,?_⟩
 rw [iY (o:=2) (s:=1) rfl]
 refine ⟨⟨rfl,rfl,by simp [cN,aK,aC]⟩,?_⟩
 rw [kY]
 exact ⟨rfl,h⟩
theorem dC {ws:List aY} {rest:List Tx} {K':AV->St->Prop} {Kp:AV->St->Prop} (AZ:∀ w ∈ ws,w ≠ []) (hl:ws.length <= 1000) (h:PS b v aw aL U) (hb:(aL++(ws.map aP++rest)).length <= NT)
 (hk:∀ af,PS b v aw (aL++ws.map aP) af->((aL++ws.map aP)++rest).length <= NT->K' (.aG []) af):ag K 231 [.box b 0,.vec ws.length .full (ws.map .str)] U (aq K' Kp) :=
 Ta AZ hl h (by simp at hb ⊢; omega) fun af h'=>hk af h' (by simpa using hb)
theorem mx {s:aY} {rest:List Tx} {K':AV->St->Prop} {Kp:AV->St->Prop} (h:PS b v aw aL U) (hb:(aL++(dM s::rest)).length <= NT) (hk:∀ af,PS b v aw (aL++[dM s]) af->((aL++[dM s])++rest).length <= NT->K' (.aG []) af):ag K 232 [.box b 0,.str s] U (aq K' Kp) :=
 S9 h (by simp at hb; omega) fun af h'=>hk af h' (by simpa using hb)
theorem p4 {m:Int} {rest:List Tx} {K':AV->St->Prop} {Kp:AV->St->Prop} (hm:eg m=true) (h:PS b v aw aL U) (hb:(aL++(iC m::rest)).length <= NT) (hk:∀ af,PS b v aw (aL++[iC m]) af->((aL++[iC m])++rest).length <= NT->K' (.aG []) af):ag K 234 [.box b 0,.int .i64 m] U (aq K' Kp) :=
 Ma hm h (by simp at hb; omega) fun af h'=>hk af h' (by simpa using hb)
theorem qW {rest:List Tx} {K':AV->St->Prop} {Kp:AV->St->Prop} (g:pD v n t) (h:PS b v aw aL U) (hb:(aL++(t.pr++rest)).length <= NT) (hk:∀ af,PS b v aw (aL++t.pr) af->((aL++t.pr)++rest).length <= NT->K' (.aG []) af):ag K 123 [.box b 0,.int .i64 (n:Nat)] U (aq K' Kp) :=
 g _ _ _ _ _ h (by simp at hb ⊢; omega) fun af h'=>hk af h' (by simpa using hb)
theorem WU {x:Nd} {c:AV} {o:Nat} (hv:cB v L.length (c8 L)) (hx:L[n]?=some x) (hc:(cM x)[o]?=some c) (h:PS b v aw aL U) {K':AV->St->Prop} {Kp:AV->St->Prop} (hk:K' c U) :
 (bR (.box b 0)).wp K U (fun v8 U=>(ae (some 0) v8).wp K U (fun v9 U=>(ae (some 0) v9).wp K U (fun v10 U=>(ae (some 0) v10).wp K U (fun v11 U=>(ah (some (false,1)) v11 U).wp K U (fun v12 U =>
   (au (some (43,6)) none v12 (.int .i64 (n:Nat))).wp K U (fun bK U=>(ae (some o) bK).wp K U (fun bj U=>(ah (some (false,1)) bj U).wp K U K' Kp) Kp) Kp) Kp) Kp) Kp) Kp) Kp:=by
 obtain ⟨vl,fP⟩:=h.ld
 simp only [eo,al]
 exact fe (fe (fe (dj fP rfl (sw (hv.zj (U:=U)) hx hc hk))))
theorem Xf {least:Nat} {x:Nd} {R:cO->St->Prop} (hv:cB v L.length (c8 L)) (hx:L[n]?=some x) (nq:x.kind=t.kind) (ht:cD t.kind=true) (g:pD v n t) (h:PS b v aw aL U) (hb:(aL++cY t.kind least t.pr).length <= NT)
 (hk:∀ af,PS b v aw (aL++cY t.kind least t.pr) af->R (.ret (.aG [])) af):ag K 235 [.box b 0,.int .i64 (n:Nat),.int .i64 (least:Nat)] U R:=by
 refine Rr ?_
 unfold Rq
 refine WU hv hx (show (cM x)[0]?=some (.int .u8 x.kind) from rfl) h ?_
 obtain ⟨vl,fP⟩:=h.ld
 refine zk (l:=[]) fP ?_
 rw [bL,nq,E6 ht,dT,al]
 refine cu (fun gq=>?_) fun aM=>?_
 . have e:cY t.kind least t.pr=t.pr:=by unfold cY; rw [if_pos (by omega)]
   rw [e] at hb hk
   exact g _ _ _ _ _ h hb fun af h'=>aj.mk (hk af h')
 . have e:cY t.kind least t.pr=[ek].map aP++(t.pr++[eV].map aP):=by unfold cY; rw [if_neg (by omega)]; rfl
   rw [e] at hb hk
   refine cW (dC (by decide) (by decide) h hb fun aQ h1 gl=>?_)
   refine qW g h1 gl fun bg h2 mD=>?_
   refine cW (dC (rest:=[]) (by decide) (by decide) h2 (by simpa using mD) fun cz h3 _=>aj.mk (hk cz ?_))
   simpa using h3
theorem wk {least:Nat} {x:Nd} {rest:List Tx} {K':AV->St->Prop} {Kp:AV->St->Prop} (hv:cB v L.length (c8 L)) (hx:L[n]?=some x) (nq:x.kind=t.kind) (ht:cD t.kind=true) (g:pD v n t) (h:PS b v aw aL U) (hb:(aL++(cY t.kind least t.pr++rest)).length <= NT)
 (hk:∀ af,PS b v aw (aL++cY t.kind least t.pr) af->((aL++cY t.kind least t.pr)++rest).length <= NT->K' (.aG []) af):ag K 235 [.box b 0,.int .i64 (n:Nat),.int .i64 (least:Nat)] U (aq K' Kp) :=
 Xf hv hx nq ht g h (by simp at hb ⊢; omega) fun af h'=>hk af h' (by simpa using hb)
theorem zN (w:aY) (m:List Tx):∀ {ls:List (List Tx)},ls ≠ []->dr w (ls++[m])=dr w ls++aP w::m
 | [],h=>absurd rfl h
 | l::ls,_=>by rw [iX,pY,pY]; simp
theorem zO (w:aY) (ls:List (List Tx)) (j:Nat):(dr w (ls.take j)).length <= (dr w ls).length:=by
 cases ls with
 | nil=>simp
 | cons l ls =>
   cases j with
   | zero=>simp [dr]
   | succ j =>
     rw [List.take_succ_cons,pY,pY,cZ,cZ]
     have:(List.flatMap (fun m=>aP w::m) (ls.take j)).length <= (List.flatMap (fun m=>aP w::m) ls).length:=by
      conv=>rhs; rw [<- List.take_append_drop j ls,List.flatMap_append,cZ]
      omega
     omega
theorem ja {vk:AV} {ks:List Nat} {i k e:Nat} {U:St} {K':AV->St->Prop} {Kp:AV->St->Prop} (hv:cB vk ks.length (cX ks)) (hx:ks[i]?=some k) (h:K' (.int .i64 (k:Nat)) U) :
 (au (some (e,1)) none vk (.int .i64 (i:Nat))).wp K U (fun p τ=>(ah (some (false,1)) p τ).wp K τ K' Kp) Kp:=by
 have aM:=(de.1 hx).1
 obtain ⟨r,hr⟩:=ints_at hv hx
 rw [hr,wp_cond,al,mB,bN]
 exact ⟨by omega,h⟩
theorem WB {vk:AV} {ks:List Nat} {ts:List Tre} {R:cO->St->Prop} (bM:cB vk ks.length (cX ks)) (hlen:ks.length=ts.length) (hl:ks.length <= 100000) (hg:∀ (i n:Nat) (t:Tre),ks[i]?=some n->ts[i]?=some t->pD v n t) (h:PS b v aw aL U)
 (hb:(aL++dr dW (ts.map Tre.pr)).length <= NT) (hk:∀ af,PS b v aw (aL++dr dW (ts.map Tre.pr)) af->R (.ret (.aG [])) af):ag K 233 [.box b 0,vk] U R:=by
 refine Rl ?_
 unfold Rk
 rw [bM.len,al]
 refine ⟨fun m w0 w6 w7 w8 af=>∃ i:Nat,m=ks.length - i/\i <= ks.length/\w0=.box b 0/\w6=vk/\w7=.int .i64 ks.length/\w8=.int .i64 (i:Nat)/\PS b v aw (aL++dr dW ((ts.map Tre.pr).take i)) af,⟨_,0,rfl,by omega,rfl,rfl,rfl,rfl,by simpa [dr] using h⟩,?_⟩
 rintro m w0 w6 w7 w8 aQ ⟨i,rfl,hi,rfl,rfl,rfl,rfl,h1⟩
 rw [a7,al]
 refine cu (fun aM=>?_) fun gq=>?_
 . have aM:i < ks.length:=by omega
   obtain ⟨n,hn⟩:∃ n,ks[i]?=some n:=⟨ks[i],by simp [aM]⟩
   obtain ⟨t,ht⟩:∃ t,ts[i]?=some t:=⟨ts[i]'(by omega),by simp [show i < ts.length by omega]⟩
   have g:=hg i n t hn ht
   have nQ:(ts.map Tre.pr)[i]?=some t.pr:=by simp [ht]
   have jF:(ts.map Tre.pr).take (i+1)=(ts.map Tre.pr).take i++[t.pr]:=by rw [lM,nQ]; rfl
   have hle:=zO dW (ts.map Tre.pr) (i+1)
   have eT:=hb
   rw [cZ] at eT
   refine ja bM hn ?_
   intro j hj
   have tail:∀ (tk:List Tx) (af:St),PS b v aw tk af->tk++t.pr=aL++dr dW ((ts.map Tre.pr).take (i+1))->j (.box b 0) (.int .i64 (n:Nat)) w6 (.int .i64 ks.length) (.int .i64 (i:Nat)) af:=by
    intro tk af h' e
    refine hj _ _ _ _ _ _ ?_
    refine g _ _ _ _ _ h' (by rw [e,cZ]; omega) fun bg h2=>?_
    rw [bL,cr]
    exact ⟨aW (by omega) (by omega),ks.length - (i+1),by omega,i+1,rfl,by omega,rfl,rfl,rfl,by simp,by rw [<- e]; exact h2⟩
   rw [cx,al]
   refine cu (fun vO=>?_) fun UP=>?_
   . have cV:(ts.map Tre.pr).take i ≠ []:=fun e=>by
      have:=congrArg List.length e
      rw [List.length_take,List.length_map,kJ] at this; omega
     have oQ:=zN dW t.pr cV
     rw [jF] at hle tail
     rw [oQ] at hle tail
     refine cW (dC (ws:=[dW]) (rest:=t.pr) (by decide) (by decide) h1 (by simp at hb hle ⊢; omega) fun bg h2 _=>?_)
     exact tail _ bg h2 (by simp)
   . have sE:i=0:=by omega
     subst sE
     exact tail _ aQ h1 (by rw [jF]; simp [dr])
 . have hi:i=ks.length:=by omega
   subst hi
   rw [o4 (by simp; omega)] at h1
   exact aj.mk (hk _ h1)
def dF:List aY->List Tre->List Tx
 | w::ws,t::ts=>aP w::(cY t.kind 1 t.pr++dF ws ts)
 | _,_=>[]
theorem u9:∀ (i:Nat) (ws:List aY) (ts:List Tre),dF ws ts=dF (ws.take i) (ts.take i)++dF (ws.drop i) (ts.drop i)
 | 0,ws,ts=>by simp [dF]
 | i+1,[],ts=>by simp [dF]
 | i+1,w::ws,[]=>by simp [dF]
 | i+1,w::ws,t::ts=>by
   rw [List.take_succ_cons,List.take_succ_cons,List.drop_succ_cons,List.drop_succ_cons,dF,dF,u9 i ws ts]; simp
theorem OK {vk:AV} {ks:List Nat} {ts:List Tre} {ws:List aY} {R:cO->St->Prop} (hv:cB v L.length (c8 L)) (bM:cB vk ks.length (cX ks)) (hlen:ks.length=ts.length) (Kj:ws.length=ts.length) (hl:ks.length <= 100000) (AZ:∀ w ∈ ws,w ≠ [])
 (hg:∀ (i n:Nat) (t:Tre),ks[i]?=some n->ts[i]?=some t->pD v n t/\cD t.kind=true/\∃ x,L[n]?=some x/\x.kind=t.kind) (h:PS b v aw aL U)
 (hb:(aL++dF ws ts).length <= NT) (hk:∀ af,PS b v aw (aL++dF ws ts) af->R (.ret (.aG [])) af):ag K 237 [.box b 0,vk,.vec ws.length .full (ws.map .str)] U R:=by
 refine Rw ?_
 unfold Rv
 rw [bM.len,al]
 refine ⟨fun m w0 w2 w8 w9 FL af=>∃ i:Nat,m=ks.length - i/\i <= ks.length/\w0=.box b 0/\w2=.vec ws.length .full (ws.map .str)/\w8=vk/\w9=.int .i64 ks.length/\FL=.int .i64 (i:Nat)/\PS b v aw (aL++dF (ws.take i) (ts.take i)) af,⟨_,0,rfl,by omega,rfl,rfl,rfl,rfl,rfl,by simpa [dF] using h⟩,?_⟩
 rintro m w0 w2 w8 w9 FL aQ ⟨i,rfl,hi,rfl,rfl,rfl,rfl,rfl,h1⟩
 rw [a7,al]
 refine cu (fun aM=>?_) fun gq=>?_
 . have aM:i < ks.length:=by omega
   obtain ⟨n,hn⟩:∃ n,ks[i]?=some n:=⟨ks[i],by simp [aM]⟩
   obtain ⟨t,ht⟩:∃ t,ts[i]?=some t:=⟨ts[i]'(by omega),by simp [show i < ts.length by omega]⟩
   obtain ⟨w,hw⟩:∃ w,ws[i]?=some w:=⟨ws[i]'(by omega),by simp [show i < ws.length by omega]⟩
   obtain ⟨g,gt,x,hx,nq⟩:=hg i n t hn ht
   have hwn:=AZ w (fl hw)
   have e1:=u9 i ws ts
   have ed:dF (ws.drop i) (ts.drop i)=aP w::(cY t.kind 1 t.pr++dF (ws.drop (i+1)) (ts.drop (i+1))):=by
    rw [fU (show i < ws.length by omega),fU (show i < ts.length by omega),dF]
    have a1:ws[i]'(by omega)=w:=(de.1 hw).2
    have a2:ts[i]'(by omega)=t:=(de.1 ht).2
    rw [a1,a2]
   have e2:=u9 (i+1) ws ts
   rw [e1,ed] at hb
   have e3:dF (ws.take (i+1)) (ts.take (i+1))=dF (ws.take i) (ts.take i)++aP w::cY t.kind 1 t.pr:=by
    have:dF (ws.take (i+1)) (ts.take (i+1))++dF (ws.drop (i+1)) (ts.drop (i+1))=(dF (ws.take i) (ts.take i)++aP w::cY t.kind 1 t.pr)++dF (ws.drop (i+1)) (ts.drop (i+1)):=by
     rw [<- e2,e1,ed]; simp
    exact List.append_cancel_right this
   refine ja bM hn ?_
   have hd:(ws.map AV.str).drop i=.str w::(ws.map AV.str).drop (i+1):=by
    rw [fU (by simp; omega)]
    have a1:ws[i]'(by omega)=w:=(de.1 hw).2
    simp [a1]
   rw [ua,dL,Nat.mul_one,hd]
   refine ⟨by omega,?_⟩
   rw [mB,bN]
   refine cW (dC (ws:=[w]) (rest:=cY t.kind 1 t.pr++dF (ws.drop (i+1)) (ts.drop (i+1))) (fun u hu=>by rw [kH] at hu; subst hu; exact hwn) (by simp) h1 (by simpa using hb) fun bg h2 mD=>?_)
   refine wk (least:=1) hv hx nq gt g h2 mD fun cz h3 _=>?_
   rw [cr]
   refine ⟨aW (by omega) (by omega),ks.length - (i+1),by omega,i+1,rfl,by omega,rfl,rfl,rfl,rfl,by simp,?_⟩
   rw [e3]
   simpa using h3
 . have hi:i=ks.length:=by omega
   subst hi
   rw [o4 (by omega),o4 (by omega)] at h1
   exact aj.mk (hk _ h1)
end
end Go.Rip
namespace Go.Rip
open Go.Proofs Go.RowKit
section
variable {b n:Nat} {U aw aQ af:St} {v:AV} {aL l rest:List Tx} {L:List Nd} {t:Tre}
structure ff (v:AV) (L:List Nd) (pl:List Nat) (ks:List Tre):Prop where
 len:pl.length=ks.length
 nd:∀ (i n:Nat) (t:Tre),pl[i]?=some n->ks[i]?=some t->pD v n t/\∃ x,L[n]?=some x/\x.kind=t.kind
def rN (t:Tre) (z:Int):List AV:=[.int .u8 t.kind,.str t.text,.int .i64 t.n,.int .i64 t.m,.int .i64 t.at_,.int .i64 z]
def jf (f:FuncId) (v:AV) (t:Tre) (pl:List Nat):Prop:=∀ (b:Nat) (aw U:St) (aL:List Tx) (R:cO->St->Prop) (z:Int) (vk:AV),cB vk pl.length (cX pl)->PS b v aw aL U->(aL++t.pr).length <= NT->(∀ af,PS b v aw (aL++t.pr) af->R (.ret (.aG [])) af)->ag K f [.box b 0,.agg (rN t z),vk] U R
theorem ff.one {pl:List Nat} {A:Tre} (h:ff v L pl [A]):∃ p,pl=[p]/\pD v p A/\∃ x,L[p]?=some x/\x.kind=A.kind:=by
 match pl,h.len with
 | [p],_=>exact ⟨p,rfl,h.nd 0 p A rfl rfl⟩
theorem ff.two {pl:List Nat} {A B:Tre} (h:ff v L pl [A,B]):∃ p q,pl=[p,q]/\(pD v p A/\∃ x,L[p]?=some x/\x.kind=A.kind)/\pD v q B/\∃ x,L[q]?=some x/\x.kind=B.kind:=by
 match pl,h.len with
 | [p,q],_=>exact ⟨p,q,rfl,h.nd 0 p A rfl rfl,h.nd 1 q B rfl rfl⟩
theorem ff.three {pl:List Nat} {A B C:Tre} (h:ff v L pl [A,B,C]):∃ p q r,pl=[p,q,r]/\(pD v p A/\∃ x,L[p]?=some x/\x.kind=A.kind)/\(pD v q B/\∃ x,L[q]?=some x/\x.kind=B.kind)/\pD v r C/\∃ x,L[r]?=some x/\x.kind=C.kind:=by
 match pl,h.len with
 | [p,q,r],_=>exact ⟨p,q,r,rfl,h.nd 0 p A rfl rfl,h.nd 1 q B rfl rfl,h.nd 2 r C rfl rfl⟩
theorem ff.app {pl:List Nat} {ks ks':List Tre} (h:ff v L pl (ks++ks')):ff v L (pl.take ks.length) ks/\ff v L (pl.drop ks.length) ks':=by
 have hl:=h.len
 rw [cZ] at hl
 refine ⟨⟨by rw [List.length_take]; omega,fun i n t h1 h2=>?_⟩,⟨by rw [List.length_drop]; omega,fun i n t h1 h2=>?_⟩⟩
 . have hi:=(de.1 h2).1
   rw [List.getElem?_take,if_pos hi] at h1
   exact h.nd i n t h1 (by rw [va hi]; exact h2)
 . rw [List.getElem?_drop] at h1
   exact h.nd _ n t h1 (by rw [List.getElem?_append_right (by omega),Nat.add_sub_cancel_left]; exact h2)
theorem fK {C:List AV} {K':AV->St->Prop} {Kp:AV->St->Prop} (h:PS b v aw aL U) (hk:∀ b4 aQ,b4 ≠ b->aQ.box b4=some C->PS b v aQ aL aQ->(∀ l af,PS b v aQ l af->PS b v aw l af)->K' (.box b4 0) aQ):(eO (.agg C)).wp K U K' Kp:=by
 rw [fg rfl]
 intro b4 iS
 obtain ⟨vl,fP⟩:=h.ld
 have h1:=h.mono (bE iS (x:=.box (aC (.agg C))))
 exact hk b4 _ (iS.cH fP).symm aS h1.wi fun l af h'=>h1.app h'
theorem gk {b4 o:Nat} {C:List AV} {c:AV} {tk:List Tx} {K':AV->St->Prop} {Kp:AV->St->Prop} (n4:b4 ≠ b) (m4:aQ.box b4=some C) (h':PS b v aQ tk af) (hc:C[o]?=some c) (k:K' c af) :
 (ae (some o) (.box b4 0)).wp K af (fun v8 U=>(ah (some (false,1)) v8 U).wp K U K' Kp) Kp:=by
 have aM:=(de.1 hc).1
 have hd:C.drop (0+o)=c::C.drop (o+1):=by
  rw [dI,fU aM,(de.1 hc).2]
 exact fe (dj (h'.fr.bo n4 m4) hd k)
theorem bm {bt:BT} {l:Bool} {k:IntKind} {p q:Int} {A B:AV->St->Prop} {Kp:AV->St->Prop} (h:p ≠ q) (hk:B (.bool false) U):(ai .eql bt l (.int k p) (.int k q)).wp K U (fun v U=>ao v (A v U) (B v U)) Kp:=by
 rw [aT,al,decide_eq_false h]
 exact bO hk
theorem fi {bt:BT} {l:Bool} {k:IntKind} {p q:Int} {A B:AV->St->Prop} {Kp:AV->St->Prop} (h:p=q) (hk:A (.bool true) U):(ai .eql bt l (.int k p) (.int k q)).wp K U (fun v U=>ao v (A v U) (B v U)) Kp:=by
 rw [aT,al,decide_eq_true h]
 exact ca hk
theorem jJ {vk:AV} {pl:List Nat} {ts:List Tre} {ws:List aY} {rest:List Tx} {K':AV->St->Prop} {Kp:AV->St->Prop} (hv:cB v L.length (c8 L)) (bM:cB vk pl.length (cX pl)) (hp:ff v L pl ts) (htm:∀ t ∈ ts,cD t.kind=true) (Kj:ws.length=ts.length) (hl:ts.length <= 1000) (AZ:∀ w ∈ ws,w ≠ [])
 (h:PS b v aw aL U) (hb:(aL++(dF ws ts++rest)).length <= NT) (hk:∀ af,PS b v aw (aL++dF ws ts) af->((aL++dF ws ts)++rest).length <= NT->K' (.aG []) af):ag K 237 [.box b 0,vk,.vec ws.length .full (ws.map .str)] U (aq K' Kp) :=
 OK hv bM hp.len Kj (by have:=hp.len; omega) AZ (fun i n t h1 h2=>⟨(hp.nd i n t h1 h2).1,htm t (fl h2),(hp.nd i n t h1 h2).2⟩) h (by simp at hb ⊢; omega) fun af h'=>hk af h' (by simpa using hb)
theorem Aw {vk:AV} {pl:List Nat} {ts:List Tre} {rest:List Tx} {K':AV->St->Prop} {Kp:AV->St->Prop} (bM:cB vk pl.length (cX pl)) (hp:ff v L pl ts) (hl:ts.length <= 1000) (h:PS b v aw aL U)
 (hb:(aL++(dr dW (ts.map Tre.pr)++rest)).length <= NT) (hk:∀ af,PS b v aw (aL++dr dW (ts.map Tre.pr)) af->((aL++dr dW (ts.map Tre.pr))++rest).length <= NT->K' (.aG []) af):ag K 233 [.box b 0,vk] U (aq K' Kp) :=
 WB bM hp.len (by have:=hp.len; omega) (fun i n t h1 h2=>(hp.nd i n t h1 h2).1) h (by simp at hb ⊢; omega) fun af h'=>hk af h' (by simpa using hb)
theorem jC {vk:AV} {pl:List Nat} (hv:cB vk pl.length (cX pl)) (h0:pl ≠ []) {i j:Nat} (qg:i <= j) (hj:j <= pl.length) {hi:Option AV} (hhi:dR pl.length hi=some (j:Int)) {lo:Option AV} (hlo:dR 0 lo=some (i:Int)) {K':AV->St->Prop} {Kp:AV->St->Prop}
 (hk:∀ c,K' (.vec ((pl.take j).drop i).length c (cX ((pl.take j).drop i))) U):(dt false (some (3,1)) vk lo hi).wp K U K' Kp:=by
 rcases hv with ⟨h1,_,_⟩ | ⟨c,rfl⟩
 . exact absurd (tS.1 h1) h0
 . rw [uM,hhi,hlo]
   simp only [dL,Nat.mul_one]
   have:j - i=((pl.take j).drop i).length:=by simp; omega
   rw [this,wp_cond,al]
   have e:((cX pl).take j).drop i=cX ((pl.take j).drop i):=by simp [cX,List.map_take,List.map_drop]
   rw [e]
   exact ⟨by omega,hk _⟩
section
variable {x:aY} {nn m a:Int} {pl:List Nat}
theorem Wm {A B C:Tre} (hv:cB v L.length (c8 L)) (hp:ff v L pl [A,B,C]) (hA:cD A.kind=true) (hB:cD B.kind=true) (hC:cD C.kind=true):jf 184 v (.mk 10 x nn m a [A,B,C]) pl:=by
 intro b aw U aL R z vk bM h hb hk
 have e:(Tre.mk 10 x nn m a [A,B,C]).pr=dF [x6,sb,ia] [A,B,C]++[]:=by rw [Tre.c6]; simp [ck,dF]
 rw [e] at hb
 refine ou ?_
 unfold rX
 refine fK h fun b4 aQ n4 m4 h1 up=>gk n4 m4 h1 (show _=some (.int .u8 10) from rfl) ?_
 refine bm (by decide) (fi rfl ?_)
 refine JJ (jJ hv bM hp (by simp [hA,hB,hC]) rfl (by simp) (by decide) h1 hb fun bg h2 _=>aj.mk (hk _ (up _ _ ?_)))
 rw [e,gw]; exact h2
theorem GP {k:Int} {w u:aY} {A B:Tre} (EC:(k,w,u) ∈ [((11:Int),nH,xZ),(15,lP,ia)]) (hv:cB v L.length (c8 L)) (hp:ff v L pl [A,B]) (hA:cD A.kind=true) (hB:cD B.kind=true):jf 184 v (.mk k x nn m a [A,B]) pl:=by
 intro b aw U aL R z vk bM h hb hk
 have AZ:∀ y ∈ [w,u],y ≠ []:=by
  simp only [cF,List.not_mem_nil,or_false,gJ] at EC
  rcases EC with ⟨_,rfl,rfl⟩ | ⟨_,rfl,rfl⟩ <;> decide
 have e:(Tre.mk k x nn m a [A,B]).pr=dF [w,u] [A,B]++[]:=by
  rw [Tre.c6]
  simp only [cF,List.not_mem_nil,or_false,gJ] at EC
  rcases EC with ⟨rfl,rfl,rfl⟩ | ⟨rfl,rfl,rfl⟩ <;> simp [ck,dF]
 rw [e] at hb
 refine ou ?_
 unfold rX
 refine fK h fun b4 aQ n4 m4 h1 up=>gk n4 m4 h1 (show _=some (.int .u8 k) from rfl) ?_
 have fin:=fun (bg:St) (h2:PS b v aQ (aL++dF [w,u] [A,B]) bg)=>hk bg (up _ _ (by rw [e,gw]; exact h2))
 simp only [cF,List.not_mem_nil,or_false,gJ] at EC
 rcases EC with ⟨rfl,rfl,rfl⟩ | ⟨rfl,rfl,rfl⟩
 . refine bm (by decide) (bm (by decide) (fi rfl ?_))
   exact ow (jJ hv bM hp (by simp [hA,hB]) rfl (by simp) AZ h1 hb fun bg h2 _=>aj.mk (fin _ h2))
 . refine bm (by decide) (bm (by decide) (bm (by decide) (fi rfl ?_)))
   exact ow (jJ hv bM hp (by simp [hA,hB]) rfl (by simp) AZ h1 hb fun bg h2 _=>aj.mk (fin _ h2))
theorem Ss {A:Tre} (hn:eg nn=true) (hm:eg m=true) (hv:cB v L.length (c8 L)) (hp:ff v L pl [A]) (hA:cD A.kind=true):jf 184 v (.mk 12 x nn m a [A]) pl:=by
 intro b aw U aL R z vk bM h hb hk
 have e:(Tre.mk 12 x nn m a [A]).pr=[rI].map aP++(dM x::([eD].map aP++(iC nn::([cR].map aP++(iC m::(dF [kN] [A]++[])))))):=by rw [Tre.c6]; simp [ck,dF]
 rw [e] at hb
 refine ou ?_
 unfold rX
 refine fK h fun b4 aQ n4 m4 h1 up=>gk n4 m4 h1 (show _=some (.int .u8 12) from rfl) ?_
 refine bm (by decide) (bm (by decide) (bm (by decide) (bm (by decide) (fi rfl ?_))))
 refine cW (dC (by decide) (by decide) h1 hb fun bg h2 b2=>gk n4 m4 h2 rfl ?_)
 refine mx h2 b2 fun cz h3 b3=>?_
 refine cW (dC (by decide) (by decide) h3 b3 fun dZ h4 pN=>gk n4 m4 h4 rfl ?_)
 refine p4 hn h4 pN fun eW h5 b5=>?_
 refine cW (dC (by decide) (by decide) h5 b5 fun oU h6 b6=>gk n4 m4 h6 rfl ?_)
 refine p4 hm h6 b6 fun jN h7 b7=>?_
 refine cW (jJ hv bM hp (by simp [hA]) rfl (by simp) (by decide) h7 b7 fun Bi h8 _=>aj.mk (hk _ (up _ _ ?_)))
 rw [e]; simpa [Tre.text,Tre.n,Tre.m] using h8
theorem Lg {A B:Tre} (hv:cB v L.length (c8 L)) (hp:ff v L pl [A,B]) (hA:cD A.kind=true) (hB:cD B.kind=true):jf 184 v (.mk 13 x nn m a [A,B]) pl:=by
 intro b aw U aL R z vk bM h hb hk
 have e:(Tre.mk 13 x nn m a [A,B]).pr=[nF].map aP++(dM x::(dF [kN,ia] [A,B]++[])):=by rw [Tre.c6]; simp [ck,dF]
 rw [e] at hb
 refine ou ?_
 unfold rX
 refine fK h fun b4 aQ n4 m4 h1 up=>gk n4 m4 h1 (show _=some (.int .u8 13) from rfl) ?_
 refine bm (by decide) (bm (by decide) (bm (by decide) (bm (by decide) (bm (by decide) (fi rfl ?_)))))
 refine cW (dC (by decide) (by decide) h1 hb fun bg h2 b2=>gk n4 m4 h2 rfl ?_)
 refine mx h2 b2 fun cz h3 b3=>?_
 refine ow (jJ hv bM hp (by simp [hA,hB]) rfl (by simp) (by decide) h3 b3 fun Bi h8 _=>aj.mk (hk _ (up _ _ ?_)))
 rw [e]; simpa [Tre.text,Tre.n,Tre.m] using h8
theorem Su {A:Tre} (hv:cB v L.length (c8 L)) (hp:ff v L pl [A]) (hA:cD A.kind=true):jf 184 v (.mk 16 x nn m a [A]) pl:=by
 intro b aw U aL R z vk bM h hb hk
 have e:(Tre.mk 16 x nn m a [A]).pr=dM x::(dF [cR] [A]++[]):=by rw [Tre.c6]; simp [ck,dF]
 rw [e] at hb
 refine ou ?_
 unfold rX
 refine fK h fun b4 aQ n4 m4 h1 up=>gk n4 m4 h1 (show _=some (.int .u8 16) from rfl) ?_
 refine bm (by decide) (bm (by decide) (bm (by decide) (bm (by decide) (bm (by decide) (bm (by decide) (fi rfl ?_))))))
 refine gk n4 m4 h1 rfl ?_
 refine mx h1 hb fun cz h3 b3=>?_
 refine cW (jJ hv bM hp (by simp [hA]) rfl (by simp) (by decide) h3 b3 fun Bi h8 _=>aj.mk (hk _ (up _ _ ?_)))
 rw [e]; simpa [Tre.text,Tre.n,Tre.m] using h8
theorem I7 {A:Tre} (hn:eg nn=true) (hv:cB v L.length (c8 L)) (hp:ff v L pl [A]) (hA:cD A.kind=true):jf 184 v (.mk 14 x nn m a [A]) pl:=by
 intro b aw U aL R z vk bM h hb hk
 have e:(Tre.mk 14 x nn m a [A]).pr=[lQ].map aP++(dM x::([cR].map aP++(iC nn::(dF [kN] [A]++[])))):=by rw [Tre.c6]; simp [ck,dF]
 rw [e] at hb
 refine ou ?_
 unfold rX
 refine fK h fun b4 aQ n4 m4 h1 up=>gk n4 m4 h1 (show _=some (.int .u8 14) from rfl) ?_
 refine bm (by decide) (bm (by decide) (bm (by decide) (bm (by decide) (bm (by decide) (bm (by decide) (bm (by decide) (fi rfl ?_)))))))
 refine cW (dC (by decide) (by decide) h1 hb fun bg h2 b2=>gk n4 m4 h2 rfl ?_)
 refine mx h2 b2 fun cz h3 b3=>?_
 refine cW (dC (by decide) (by decide) h3 b3 fun dZ h4 pN=>gk n4 m4 h4 rfl ?_)
 refine p4 hn h4 pN fun eW h5 b5=>?_
 refine cW (jJ hv bM hp (by simp [hA]) rfl (by simp) (by decide) h5 b5 fun Bi h8 _=>aj.mk (hk _ (up _ _ ?_)))
 rw [e]; simpa [Tre.text,Tre.n,Tre.m] using h8
theorem W6:∀ (A:Tre) (ts:List Tre),dr dO ((A::ts).map fun t=>cY t.kind 1 t.pr)=cY A.kind 1 A.pr++ts.flatMap fun t=>aP dO::cY t.kind 1 t.pr:=by
 intro A ts
 rw [dV,pY,List.flatMap_map]
theorem Sv {A:Tre} {ts:List Tre} (Cq:ts.length <= 900) (hv:cB v L.length (c8 L)) (hp:ff v L pl (A::ts)) (hA:∀ t ∈ A::ts,cD t.kind=true):jf 184 v (.mk 9 x nn m a (A::ts)) pl:=by
 intro b aw U aL R z vk bM h hb hk
 have e:(Tre.mk 9 x nn m a (A::ts)).pr=cY A.kind 1 A.pr++ts.flatMap fun t=>aP dO::cY t.kind 1 t.pr:=by
  rw [Tre.c6,<- W6]
  simp only [ck,List.map_map]; rfl
 rw [e] at hb
 have hlen:=hp.len
 obtain ⟨p0,pr,rfl⟩:∃ p r,pl=p::r:=by
  cases pl with
  | nil=>simp at hlen
  | cons p r=>exact ⟨p,r,rfl⟩
 obtain ⟨g0,x0,hx0,aeH⟩:=hp.nd 0 p0 A rfl rfl
 have hp':ff v L pr ts:=(ff.app (ks:=[A]) hp).2
 refine ou ?_
 unfold rX
 refine fK h fun b4 aQ n4 m4 h1 up=>gk n4 m4 h1 (show _=some (.int .u8 9) from rfl) ?_
 refine fi rfl ?_
 refine ja (i:=0) bM rfl ?_
 refine wk (least:=1) hv hx0 aeH (hA A (by simp)) g0 h1 hb fun bg h2 b2=>?_
 refine jC (i:=1) (j:=(p0::pr).length) bM (by simp) (by simp) (gE _) rfl rfl fun c=>?_
 rw [oq,show (p0::pr).drop 1=pr from rfl]
 rw [show br (some false) (AV.vec pr.length c (cX pr))=.val (.int .i64 pr.length) from rfl,al]
 have za:cB (AV.vec pr.length c (cX pr)) pr.length (cX pr):=.inr ⟨_,rfl⟩
 have afH:=hp'.len
 refine ⟨fun mm w0 w18 w19 w20 af=>∃ i:Nat,mm=pr.length - i/\i <= pr.length/\w0=.box b 0/\w18=AV.vec pr.length c (cX pr)/\w19=.int .i64 pr.length/\w20=.int .i64 (i:Nat)/\PS b v aQ (aL++cY A.kind 1 A.pr++(ts.take i).flatMap fun t=>aP dO::cY t.kind 1 t.pr) af,⟨_,0,rfl,by omega,rfl,rfl,rfl,rfl,by simpa using h2⟩,?_⟩
 rintro mm w0 w18 w19 w20 cz ⟨i,rfl,hi,rfl,rfl,rfl,rfl,h3⟩
 rw [a7,al]
 refine cu (fun aM=>?_) fun gq=>?_
 . have aM:i < pr.length:=by omega
   obtain ⟨q,hq⟩:∃ q,pr[i]?=some q:=⟨pr[i],by simp [aM]⟩
   obtain ⟨t,ht⟩:∃ t,ts[i]?=some t:=⟨ts[i]'(by omega),by simp [show i < ts.length by omega]⟩
   obtain ⟨g,xq,hxq,aeI⟩:=hp'.nd i q t hq ht
   have htm:=hA t (by simp [fl ht])
   refine ja za hq ?_
   refine Ds rfl rfl ?_
   have e2:(ts.take (i+1)).flatMap (fun t=>aP dO::cY t.kind 1 t.pr)=(ts.take i).flatMap (fun t=>aP dO::cY t.kind 1 t.pr)++(dF [dO] [t]):=by
    rw [lM,ht]; simp [dF]
   have hle:((ts.take (i+1)).flatMap (fun t=>aP dO::cY t.kind 1 t.pr)).length <= (ts.flatMap fun t=>aP dO::cY t.kind 1 t.pr).length:=by
    conv=>rhs; rw [<- List.take_append_drop (i+1) ts,List.flatMap_append,cZ]
    omega
   refine cW (jJ (ts:=[t]) (rest:=[]) (pl:=[q]) hv (.inr ⟨_,rfl⟩) ⟨rfl,fun j n' t' j1 j2=>?_⟩ (by simp [htm]) rfl (by simp) (by decide) h3 ?_ fun dZ h4 _=>?_)
   . match j,j1,j2 with
     | 0,j1,j2 =>
       simp at j1 j2
       subst j1 j2
       exact ⟨g,xq,hxq,aeI⟩
   . rw [e2,cZ] at hle
     rw [gw]
     simp only [cZ] at hb b2 ⊢
     omega
   . rw [cr]
     refine ⟨aW (by omega) (by omega),pr.length - (i+1),by omega,i+1,rfl,by omega,rfl,rfl,rfl,by simp,?_⟩
     rw [e2,<- kI]; exact h4
 . have hi:i=pr.length:=by omega
   subst hi
   rw [o4 (by omega)] at h3
   refine aj.mk (hk _ (up _ _ ?_))
   rw [e,<- kI]; exact h3
end
end
end Go.Rip
