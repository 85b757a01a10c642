/- Lemmas for the proof: no conditions. -/
import Derived.Test.YtnfpmiiopiinbaaGreatDoorRipZz
import Derived.Test.YtnfpmiiopiinbaaGreatDoorRipYg
set_option linter.unusedVariables false
set_option linter.unusedSimpArgs false
set_option linter.loopingSimpArgs false
namespace Go.Rip
open Go.Proofs Go.RowKit
section
variable {b n:Nat} {U aw aQ af:St} {v:AV} {aL l rest:List Tx} {L:List Nd} {t:Tre} {x:aY} {nn m a:Int} {pl:List Nat}
theorem qE {C:cT} {K':AV->St->Prop} {Kp:AV->St->Prop} {mm:Nat} {ks vs ks' vs':List AV} {k:Int} {y:AV} {ty:TypeId} (h:U.mp mm=some (ks,vs)) (hf:lX .i (.int .u8 k) ks 0=some none) (hi:gN (.int .u8 k) y ks vs=(ks',vs')) :
 (gh (some (.i,ty)) (.mp mm) (.int .u8 k) y U).wp C U K' Kp=K' (.aG []) (U.set mm (.mp ks' vs')):=by
 simp only [gh,h,hf,uv,hi]; rfl
theorem Sx (hn:eg nn=true):jf 186 v (.mk 26 x nn m a []) pl:=by
 intro b aw U aL R z vk bM h hb hk
 have e:(Tre.mk 26 x nn m a []).pr=[iC nn]:=by rw [Tre.c6]; simp [ck]
 rw [e] at hb
 refine pZ ?_
 unfold tU
 refine fK h fun b4 aQ n4 m4 h1 up=>gk n4 m4 h1 (show _=some (.int .u8 26) from rfl) ?_
 refine fi rfl (gk n4 m4 h1 rfl ?_)
 refine p4 hn h1 hb fun bg h2 _=>aj.mk (hk _ (up _ _ ?_))
 rw [e]; exact h2
theorem Ni:jf 186 v (.mk 31 x nn m a []) pl:=by
 intro b aw U aL R z vk bM h hb hk
 have e:(Tre.mk 31 x nn m a []).pr=[qD].map aP++[dM x]:=by rw [Tre.c6]; simp [ck]
 rw [e] at hb
 refine pZ ?_
 unfold tU
 refine fK h fun b4 aQ n4 m4 h1 up=>gk n4 m4 h1 (show _=some (.int .u8 31) from rfl) ?_
 refine bm (by decide) (fi rfl ?_)
 refine cW (dC (by decide) (by decide) h1 hb fun bg h2 b2=>gk n4 m4 h2 rfl ?_)
 refine mx h2 b2 fun cz h3 _=>aj.mk (hk _ (up _ _ ?_))
 rw [e]; simpa [Tre.text,Tre.n,Tre.m] using h3
theorem Sw:jf 186 v (.mk 32 x nn m a []) pl:=by
 intro b aw U aL R z vk bM h hb hk
 have e:(Tre.mk 32 x nn m a []).pr=[qz].map aP++[dM x]:=by rw [Tre.c6]; simp [ck]
 rw [e] at hb
 refine pZ ?_
 unfold tU
 refine fK h fun b4 aQ n4 m4 h1 up=>gk n4 m4 h1 (show _=some (.int .u8 32) from rfl) ?_
 refine bm (by decide) (bm (by decide) (fi rfl ?_))
 refine cW (dC (by decide) (by decide) h1 hb fun bg h2 b2=>gk n4 m4 h2 rfl ?_)
 refine mx h2 b2 fun cz h3 _=>aj.mk (hk _ (up _ _ ?_))
 rw [e]; simpa [Tre.text,Tre.n,Tre.m] using h3
theorem Nj:jf 186 v (.mk 33 x nn m a []) pl:=by
 intro b aw U aL R z vk bM h hb hk
 have e:(Tre.mk 33 x nn m a []).pr=[dM x]:=by rw [Tre.c6]; simp [ck]
 rw [e] at hb
 refine pZ ?_
 unfold tU
 refine fK h fun b4 aQ n4 m4 h1 up=>gk n4 m4 h1 (show _=some (.int .u8 33) from rfl) ?_
 refine bm (by decide) (bm (by decide) (bm (by decide) (fi rfl (gk n4 m4 h1 rfl ?_))))
 refine mx h1 hb fun cz h3 _=>aj.mk (hk _ (up _ _ ?_))
 rw [e]; exact h3
theorem Nh {ks:List Tre} (Cq:ks.length <= 1000) (hp:ff v L pl ks):jf 186 v (.mk 34 x nn m a ks) pl:=by
 intro b aw U aL R z vk bM h hb hk
 have e:(Tre.mk 34 x nn m a ks).pr=dM x::([ek].map aP++(dr dW (ks.map Tre.pr)++([eV].map aP++[]))):=by
  rw [Tre.c6]
  simp only [ck,List.map_map]
  simp [Function.comp_def]
 rw [e] at hb
 refine pZ ?_
 unfold tU
 refine fK h fun b4 aQ n4 m4 h1 up=>gk n4 m4 h1 (show _=some (.int .u8 34) from rfl) ?_
 refine bm (by decide) (bm (by decide) (bm (by decide) (bm (by decide) (fi rfl (gk n4 m4 h1 rfl ?_)))))
 refine mx h1 hb fun bg h2 b2=>?_
 refine cW (dC (by decide) (by decide) h2 b2 fun cz h3 b3=>?_)
 refine Aw bM hp Cq h3 b3 fun dZ h4 pN=>?_
 refine cW (dC (by decide) (by decide) h4 pN fun eW h5 _=>aj.mk (hk _ (up _ _ ?_)))
 rw [e]; simpa [Tre.text,Tre.n,Tre.m] using h5
theorem ui {k:Int} {w:aY} (pd:(k,w) ∈ [((27:Int),gz),(28,gp),(29,jM),(30,lE)]):jf 186 v (.mk k x nn m a []) pl:=by
 intro b aw U aL R z vk bM h hb hk
 have e:(Tre.mk k x nn m a []).pr=[w].map aP++[]:=by
  rw [Tre.c6]
  simp only [cF,List.not_mem_nil,or_false,gJ] at pd
  rcases pd with ⟨rfl,rfl⟩ | ⟨rfl,rfl⟩ | ⟨rfl,rfl⟩ | ⟨rfl,rfl⟩ <;> simp [ck]
 rw [e] at hb
 have hw:w ≠ []:=by
  simp only [cF,List.not_mem_nil,or_false,gJ] at pd
  rcases pd with ⟨_,rfl⟩ | ⟨_,rfl⟩ | ⟨_,rfl⟩ | ⟨_,rfl⟩ <;> decide
 have hkr:27 <= k/\k <= 30:=by
  simp only [cF,List.not_mem_nil,or_false,gJ] at pd
  omega
 refine pZ ?_
 unfold tU
 refine fK h fun b4 aQ n4 m4 h1 up=>gk n4 m4 h1 (show _=some (.int .u8 k) from rfl) ?_
 refine bm (by omega) (bm (by omega) (bm (by omega) (bm (by omega) (bm (by omega) ?_))))
 rw [pq]
 intro mm ur
 rw [show NV.at mm .mp=AV.mp mm from rfl]
 rw [qE (ks':=[.int .u8 27]) (vs':=[.str gz]) zn rfl rfl]
 rw [qE (ks':=[.int .u8 27,.int .u8 28]) (vs':=[.str gz,.str gp]) lq rfl rfl]
 rw [qE (ks':=[.int .u8 27,.int .u8 28,.int .u8 29]) (vs':=[.str gz,.str gp,.str jM]) lq rfl rfl]
 rw [qE (ks':=[.int .u8 27,.int .u8 28,.int .u8 29,.int .u8 30]) (vs':=[.str gz,.str gp,.str jM,.str lE]) lq rfl rfl]
 have e1:dD aQ (((((aQ.new mm (.mp [] [])).set mm (.mp [.int .u8 27] [.str gz])).set mm (.mp [.int .u8 27,.int .u8 28] [.str gz,.str gp])).set mm (.mp [.int .u8 27,.int .u8 28,.int .u8 29] [.str gz,.str gp,.str jM])).set mm (.mp [.int .u8 27,.int .u8 28,.int .u8 29,.int .u8 30] [.str gz,.str gp,.str jM,.str lE])) :=
  ((((bE ur).set ur.1).set ur.1).set ur.1).set ur.1
 have Ox:((((((aQ.new mm (.mp [] [])).set mm (.mp [.int .u8 27] [.str gz])).set mm (.mp [.int .u8 27,.int .u8 28] [.str gz,.str gp])).set mm (.mp [.int .u8 27,.int .u8 28,.int .u8 29] [.str gz,.str gp,.str jM])).set mm (.mp [.int .u8 27,.int .u8 28,.int .u8 29,.int .u8 30] [.str gz,.str gp,.str jM,.str lE]))).mp mm=some ([.int .u8 27,.int .u8 28,.int .u8 29,.int .u8 30],[.str gz,.str gp,.str jM,.str lE]):=lq
 have h2:=h1.mono e1
 generalize ((((aQ.new mm (.mp [] [])).set mm _).set mm _).set mm _).set mm _=bg at *
 refine gk n4 m4 h2 (show _=some (.int .u8 k) from rfl) ?_
 have NJ:gI (some (.i,9)) (some (AV.str [])) (.mp mm) (.int .u8 k) false bg=.val (.str w):=by
  simp only [gI,mL,Ox]
  simp only [cF,List.not_mem_nil,or_false,gJ] at pd
  rcases pd with ⟨rfl,rfl⟩ | ⟨rfl,rfl⟩ | ⟨rfl,rfl⟩ | ⟨rfl,rfl⟩ <;> rfl
 rw [NJ,al]
 refine cW (dC (rest:=[]) (fun u hu=>by rw [kH] at hu; subst hu; exact hw) (by simp) h2 hb fun cz h3 _=>aj.mk (hk _ (up _ _ ?_)))
 rw [e,gw]; exact h3
theorem Lh {A:Tre} (hp:ff v L pl [A]):jf 187 v (.mk 5 x nn m a [A]) pl:=by
 intro b aw U aL R z vk bM h hb hk
 have e:(Tre.mk 5 x nn m a [A]).pr=dM x::([eD].map aP++(A.pr++[])):=by rw [Tre.c6]; simp [ck]
 rw [e] at hb
 obtain ⟨p,rfl,g,_⟩:=hp.one
 refine uK ?_
 unfold zQ
 refine fK h fun b4 aQ n4 m4 h1 up=>gk n4 m4 h1 (show _=some (.int .u8 5) from rfl) ?_
 refine fi rfl (gk n4 m4 h1 rfl ?_)
 refine mx h1 hb fun bg h2 b2=>?_
 refine cW (dC (by decide) (by decide) h2 b2 fun cz h3 b3=>?_)
 refine ja (i:=0) bM rfl ?_
 refine qW g h3 b3 fun dZ h4 _=>aj.mk (hk _ (up _ _ ?_))
 rw [e]; simpa [Tre.text,Tre.n,Tre.m] using h4
theorem Nk:jf 187 v (.mk 37 x nn m a []) pl:=by
 intro b aw U aL R z vk bM h hb hk
 have e:(Tre.mk 37 x nn m a []).pr=[dM x]:=by rw [Tre.c6]; simp [ck]
 rw [e] at hb
 refine uK ?_
 unfold zQ
 refine fK h fun b4 aQ n4 m4 h1 up=>gk n4 m4 h1 (show _=some (.int .u8 37) from rfl) ?_
 refine bm (by decide) (fi rfl (gk n4 m4 h1 rfl ?_))
 refine mx h1 hb fun cz h3 _=>aj.mk (hk _ (up _ _ ?_))
 rw [e]; exact h3
theorem Wn {ps:List Tre} {B:Tre} (Cq:ps.length <= 900) (hps:1 <= ps.length) (hv:cB v L.length (c8 L)) (hp:ff v L pl (ps++[B])) (hB:cD B.kind=true):jf 187 v (.mk 35 x nn m a (ps++[B])) pl:=by
 intro b aw U aL R z vk bM h hb hk
 have e:(Tre.mk 35 x nn m a (ps++[B])).pr=[x5,ek].map aP++(dr dW (ps.map Tre.pr)++(dF [eV] [B]++[])):=by
  rw [Tre.c6]
  have e1:(ps++[B]).map (fun t=>(t.kind,t.pr))=(ps.map fun t=>(t.kind,t.pr))++[(B.kind,B.pr)]:=by simp
  rw [e1]
  generalize hq:ps.map (fun t=>(t.kind,t.pr))=q
  have e3:ps.map Tre.pr=q.map (·.2):=by rw [<- hq,List.map_map]; rfl
  rw [e3]
  simp [ck,dF,mv]
 rw [e] at hb
 have hlen:=hp.len
 rw [cZ,List.length_singleton] at hlen
 obtain ⟨qj,sG⟩:=hp.app
 have Cy:=qj.len
 have qi:=sG.len
 have cV:pl ≠ []:=fun e=>by rw [e] at hlen; simp at hlen
 refine uK ?_
 unfold zQ
 refine fK h fun b4 aQ n4 m4 h1 up=>gk n4 m4 h1 (show _=some (.int .u8 35) from rfl) ?_
 refine bm (by decide) (bm (by decide) (fi rfl ?_))
 rw [bM.len,al,pB]
 refine ⟨aW (by omega) (by omega),?_⟩
 have mM:((pl.length:Int) - 1)=((ps.length:Nat):Int):=by omega
 rw [mM]
 refine ow (dC (by decide) (by decide) h1 hb fun bg h2 b2=>?_)
 refine jC (i:=0) (j:=ps.length) bM cV (by omega) (by omega) (eG _ _ _) rfl fun c=>?_
 rw [dQ]
 refine Aw (.inr ⟨_,rfl⟩) qj (by omega) h2 b2 fun cz h3 b3=>?_
 refine jC (i:=ps.length) (j:=pl.length) bM cV (by omega) (by omega) rfl (eG _ _ _) fun c=>?_
 rw [oq]
 refine cW (jJ hv (.inr ⟨_,rfl⟩) sG (by simp [hB]) rfl (by simp) (by decide) h3 b3 fun Bi h8 _=>aj.mk (hk _ (up _ _ ?_)))
 rw [e]; simpa using h8
theorem I8 {A B C:Tre} (hv:cB v L.length (c8 L)) (hp:ff v L pl [A,B,C]) (hA:cD A.kind=true) (hC:cD C.kind=true):jf 187 v (.mk 36 x nn m a [A,B,C]) pl:=by
 intro b aw U aL R z vk bM h hb hk
 have e:(Tre.mk 36 x nn m a [A,B,C]).pr=[qB].map aP++(dF [uO] [A]++([dO,s8].map aP++(B.pr++(dF [rE] [C]++([rG].map aP++[]))))):=by
  rw [Tre.c6]; simp [ck,dF]
 rw [e] at hb
 obtain ⟨p,q,r,rfl,⟨gA,xA,NZ,NI⟩,⟨gB,_⟩,gC,xC,hxC,hkC⟩:=hp.three
 have hpA:ff v L [p] [A]:=⟨rfl,fun i n t h1 h2=>by
  match i,h1,h2 with
  | 0,h1,h2=>simp at h1 h2; subst h1 h2; exact ⟨gA,xA,NZ,NI⟩⟩
 have hpC:ff v L [r] [C]:=⟨rfl,fun i n t h1 h2=>by
  match i,h1,h2 with
  | 0,h1,h2=>simp at h1 h2; subst h1 h2; exact ⟨gC,xC,hxC,hkC⟩⟩
 refine uK ?_
 unfold zQ
 refine fK h fun b4 aQ n4 m4 h1 up=>gk n4 m4 h1 (show _=some (.int .u8 36) from rfl) ?_
 refine bm (by decide) (bm (by decide) (bm (by decide) (fi rfl ?_)))
 refine cW (dC (by decide) (by decide) h1 hb fun bg h2 b2=>?_)
 refine jC (i:=0) (j:=1) bM (by simp) (by omega) (by simp) rfl rfl fun c=>?_
 refine cW (jJ (pl:=[p]) hv (.inr ⟨_,rfl⟩) hpA (by simp [hA]) rfl (by simp) (by decide) h2 b2 fun cz h3 b3=>?_)
 refine ow (dC (by decide) (by decide) h3 b3 fun dZ h4 pN=>?_)
 refine ja (i:=1) bM rfl ?_
 refine qW gB h4 pN fun eW h5 b5=>?_
 refine jC (i:=2) (j:=3) bM (by simp) (by omega) (by simp) rfl rfl fun c=>?_
 refine cW (jJ (pl:=[r]) hv (.inr ⟨_,rfl⟩) hpC (by simp [hC]) rfl (by simp) (by decide) h5 b5 fun oU h6 b6=>?_)
 refine cW (dC (by decide) (by decide) h6 b6 fun jN h7 _=>aj.mk (hk _ (up _ _ ?_)))
 rw [e]; simpa using h7
theorem Lf {ps:List Tre} {B:Tre} (Cq:ps.length <= 900) (hp:ff v L pl (ps++[B])):jf 182 v (.mk 8 x nn m a (ps++[B])) pl:=by
 intro b aw U aL R z vk bM h hb hk
 have e:(Tre.mk 8 x nn m a (ps++[B])).pr=[ek].map aP++(dr dW (ps.map Tre.pr)++([eV,gd].map aP++(B.pr++[]))):=by
  rw [Tre.c6]
  have e1:(ps++[B]).map (fun t=>(t.kind,t.pr))=(ps.map fun t=>(t.kind,t.pr))++[(B.kind,B.pr)]:=by simp
  rw [e1]
  generalize hq:ps.map (fun t=>(t.kind,t.pr))=q
  have e3:ps.map Tre.pr=q.map (·.2):=by rw [<- hq,List.map_map]; rfl
  rw [e3]
  simp [ck,mv]
 rw [e] at hb
 have hlen:=hp.len
 rw [cZ,List.length_singleton] at hlen
 obtain ⟨qj,sG⟩:=hp.app
 have cV:pl ≠ []:=fun e=>by rw [e] at hlen; simp at hlen
 obtain ⟨p,yl,gB,_⟩:=sG.one
 have ll:pl[ps.length]?=some p:=by
  have:(pl.drop ps.length)[0]?=some p:=by rw [yl]; rfl
  simpa using this
 refine Fq ?_
 unfold Ib
 refine fK h fun b4 aQ n4 m4 h1 up=>gk n4 m4 h1 (show _=some (.int .u8 8) from rfl) ?_
 refine fi rfl ?_
 rw [bM.len,al,pB]
 refine ⟨aW (by omega) (by omega),?_⟩
 have mM:((pl.length:Int) - 1)=((ps.length:Nat):Int):=by omega
 rw [mM]
 refine cW (dC (by decide) (by decide) h1 hb fun bg h2 b2=>?_)
 refine jC (i:=0) (j:=ps.length) bM cV (by omega) (by omega) (eG _ _ _) rfl fun c=>?_
 rw [dQ]
 refine Aw (.inr ⟨_,rfl⟩) qj (by omega) h2 b2 fun cz h3 b3=>?_
 refine ow (dC (by decide) (by decide) h3 b3 fun dZ h4 pN=>?_)
 refine ja bM ll ?_
 refine qW gB h4 pN fun eW h5 b5=>aj.mk (hk _ (up _ _ ?_))
 rw [e]; simpa using h5
theorem Ng {k:Int} (Z1:k=6\/k=7) (hn:eg nn=true):jf 182 v (.mk k x nn m a []) pl:=by
 intro b aw U aL R z vk bM h hb hk
 refine Fq ?_
 unfold Ib
 refine fK h fun b4 aQ n4 m4 h1 up=>gk n4 m4 h1 (show _=some (.int .u8 k) from rfl) ?_
 refine bm (by omega) (gk n4 m4 h1 (show _=some (.int .u8 k) from rfl) ?_)
 have big:(∀ y,(Tre.mk k x nn m a []).pr=y->y=[(if k=6 then kU else kM)].map aP++[iC nn])->(ay.xl).wp K aQ (fun v8 U =>
  (gh (some (.i,9)) v8 (AV.int .u8 6) (AV.str kU) U).wp K U (fun _ U =>
  (gh (some (.i,9)) v8 (AV.int .u8 7) (AV.str kM) U).wp K U (fun _ U =>
  (ae (some 0) (.box b4 0)).wp K U (fun v10 U =>
  (ah (some (false,1)) v10 U).wp K U (fun v11 U =>
  (gI (some (.i,9)) (some (AV.str [])) v8 v11 false U).wp K U (fun v12 U =>
  (aJ (some (9,1)) (some [AV.str []]) 1 false [(0,v12)]).wp K U (fun bP U =>
  ag K 231 [.box b 0,bP] U (aq (fun bK U =>
  (ae (some 2) (.box b4 0)).wp K U (fun cA U =>
  (ah (some (false,1)) cA U).wp K U (fun bW U =>
  ag K 234 [.box b 0,bW] U (aq (fun bY U =>
  aj R (AV.aG []) U) (aa R))) (aa R)) (aa R)) (aa R))) (aa R)) (aa R)) (aa R)) (aa R)) (aa R)) (aa R)) (aa R):=by
  intro he
  have e:=he _ rfl
  have hw:(if k=6 then kU else kM) ≠ []:=by split <;> decide
  rw [e] at hb
  rw [pq]
  intro mm ur
  rw [show NV.at mm .mp=AV.mp mm from rfl]
  rw [qE (ks':=[.int .u8 6]) (vs':=[.str kU]) zn rfl rfl]
  rw [qE (ks':=[.int .u8 6,.int .u8 7]) (vs':=[.str kU,.str kM]) lq rfl rfl]
  have e1:dD aQ (((aQ.new mm (.mp [] [])).set mm (.mp [.int .u8 6] [.str kU])).set mm (.mp [.int .u8 6,.int .u8 7] [.str kU,.str kM])):=((bE ur).set ur.1).set ur.1
  have Ox:(((aQ.new mm (.mp [] [])).set mm (.mp [.int .u8 6] [.str kU])).set mm (.mp [.int .u8 6,.int .u8 7] [.str kU,.str kM])).mp mm=some ([.int .u8 6,.int .u8 7],[.str kU,.str kM]):=lq
  have h2:=h1.mono e1
  generalize ((aQ.new mm (.mp [] [])).set mm _).set mm _=bg at *
  refine gk n4 m4 h2 (show _=some (.int .u8 k) from rfl) ?_
  have NJ:gI (some (.i,9)) (some (AV.str [])) (.mp mm) (.int .u8 k) false bg=.val (.str (if k=6 then kU else kM)):=by
   simp only [gI,mL,Ox]
   rcases Z1 with rfl | rfl <;> rfl
  rw [NJ,al]
  refine cW (dC (fun u hu=>by rw [kH] at hu; subst hu; exact hw) (by simp) h2 hb fun cz h3 b3=>gk n4 m4 h3 rfl ?_)
  refine p4 hn h3 b3 fun dZ h4 _=>aj.mk (hk _ (up _ _ ?_))
  rw [e]; simpa [Tre.text,Tre.n,Tre.m] using h4
 have word:∀ w:aY,w ≠ []->(Tre.mk k x nn m a []).pr=[w].map aP++[]->(aJ (some (9,1)) (some [AV.str []]) 1 false [(0,(AV.str w))]).wp K aQ (fun v53 U=>ag K 231 [.box b 0,v53] U (aq (fun gi U=>aj R (AV.aG []) U) (aa R))) (aa R):=by
  intro w hw e
  rw [e] at hb
  refine cW (dC (rest:=[]) (fun u hu=>by rw [kH] at hu; subst hu; exact hw) (by simp) h1 hb fun cz h3 _=>aj.mk (hk _ (up _ _ ?_)))
  rw [e,gw]; exact h3
 rw [aT,al]
 rcases Z1 with rfl | rfl
 . simp only [bZ,aI,dN,aB,bq]
   refine hU (dz (h1.fr.bo n4 m4) rfl ?_)
   rw [aT,ax]
   simp only [az,if_true,al]
   refine cu (fun tq=>?_) fun tq=>?_
   . have tq:nn=1:=tq
     exact word xY (by decide) (by rw [Tre.c6]; simp [ck,tq])
   . have tq:¬ nn=1:=tq
     refine gk n4 m4 h1 (show _=some (.int .u8 6) from rfl) ?_
     rw [aT,al]
     simp only [bZ,aI,dN,aB,bq]
     refine hU (dz (h1.fr.bo n4 m4) rfl ?_)
     rw [aT,ax]
     simp only [az,if_true,al]
     refine cu (fun AO=>?_) fun AO=>?_
     . have AO:nn=2:=AO
       exact word tZ (by decide) (by rw [Tre.c6]; simp [ck,AO])
     . have AO:¬ nn=2:=AO
       exact big fun y hy=>by rw [<- hy,Tre.c6]; simp [ck,tq,AO]
 . simp only [show decide ((7:Int)=6)=false from rfl,aI,show (false == true)=false from rfl,aB,aZ,az,bC,if_false,al]
   refine bO (gk n4 m4 h1 (show _=some (.int .u8 7) from rfl) ?_)
   rw [aT,al]
   simp only [show decide ((7:Int)=6)=false from rfl,aI,show (false == true)=false from rfl,aB,aZ,az,bC,if_false,al]
   refine bO (big fun y hy=>by rw [<- hy,Tre.c6]; simp [ck])
end
end Go.Rip
namespace Go.Rip
open Go.Proofs Go.RowKit
section
variable {b n:Nat} {U aw aQ af:St} {v:AV} {aL l rest:List Tx} {L:List Nd} {t:Tre} {x:aY} {nn m a:Int} {pl:List Nat}
def A3 (k:Int):aY:=if k=2 then fC else if k=3 then j9 else gO
theorem Ep {R:cO->St->Prop} {k z:Int} {ks:List Tre} {vk:AV} {rest:List Tx} (EC:k=2\/k=3\/k=4) (h:PS b v aw aL U) (hb:(aL++([A3 k].map aP++(dM x::rest))).length <= NT) (hk:∀ l af,PS b v aw (aL++l) af->(Tre.mk k x nn m a ks).pr=l->R (.ret (.aG [])) af)
 (key:∀ b4 aQ bg,b4 ≠ b->aQ.box b4=some (rN (.mk k x nn m a ks) z)->PS b v aQ (aL++[A3 k].map aP++[dM x]) bg->(aL++[A3 k].map aP++[dM x]++rest).length <= NT->(∀ l af,PS b v aQ l af->PS b v aw l af) ->
   (gR 1 (fun v0 U =>
     (aJ (some (9,1)) (some [AV.str []]) 1 false [(0,(AV.str dO))]).wp K U (fun ju U =>
     ag K 231 [v0,ju] U (aq (fun lC U =>
     aj R (AV.aG []) U) (aa R))) (aa R)) fun j =>
   (ae (some 0) (.box b4 0)).wp K bg (fun bS U =>
   (ah (some (false,1)) bS U).wp K U (fun v20 U =>
   (ai .eql (BT.mk false false false none false) true v20 (AV.int .u8 2)).wp K U (fun v21 U =>
   ao v21 (
    (aJ (some (9,1)) (some [AV.str []]) 1 false [(0,(AV.str eD))]).wp K U (fun dp U =>
    ag K 231 [.box b 0,dp] U (aq (fun v24 U =>
    (au (some (3,1)) none vk (AV.int .i64 0)).wp K U (fun dq U =>
    (ah (some (false,1)) dq U).wp K U (fun v28 U =>
    ag K 123 [.box b 0,v28] U (aq (fun cJ U =>
    j (.box b 0) U) (aa R))) (aa R)) (aa R)) (aa R))) (aa R)) (
    (br (some false) vk).wp K U (fun v31 U =>
    (ai .sub (BT.mk false false false none false) true v31 (AV.int .i64 2)).wp K U (fun et U =>
    (aJ (some (9,1)) (some [AV.str []]) 1 false [(0,(AV.str ek))]).wp K U (fun fG U =>
    ag K 231 [.box b 0,fG] U (aq (fun eN U =>
    (dt false (some (3,1)) vk none (some et)).wp K U (fun gS U =>
    ag K 233 [.box b 0,gS] U (aq (fun v40 U =>
    (aJ (some (9,1)) (some [AV.str []]) 2 false [(0,(AV.str eV)),(1,(AV.str eD))]).wp K U (fun iu U =>
    ag K 231 [.box b 0,iu] U (aq (fun eI U =>
    (au (some (3,1)) none vk et).wp K U (fun iL U =>
    (ah (some (false,1)) iL U).wp K U (fun hZ U =>
    ag K 123 [.box b 0,hZ] U (aq (fun v49 U =>
    (aJ (some (9,1)) (some [AV.str []]) 1 false [(0,(AV.str iJ))]).wp K U (fun v51 U =>
    ag K 231 [.box b 0,v51] U (aq (fun gT U =>
    (ai .add (BT.mk false false false none false) true et (AV.int .i64 1)).wp K U (fun iM U =>
    (au (some (3,1)) none vk iM).wp K U (fun iv U =>
    (ah (some (false,1)) iv U).wp K U (fun iG U =>
    ag K 123 [.box b 0,iG] U (aq (fun v59 U =>
    j (.box b 0) U) (aa R))) (aa R)) (aa R)) (aa R)) (aa R))) (aa R)) (aa R))) (aa R)) (aa R)) (aa R))) (aa R)) (aa R))) (aa R)) (aa R))) (aa R)) (aa R)) (aa R))) (aa R)) (aa R)) (aa R))):ag K 180 [.box b 0,.agg (rN (.mk k x nn m a ks) z),vk] U R:=by
 have hw:A3 k ≠ []:=by unfold A3; split; decide; split <;> decide
 refine Qn ?_
 unfold Qm
 refine fK h fun b4 aQ n4 m4 h1 up=>?_
 rw [pq]
 intro mm ur
 rw [show NV.at mm .mp=AV.mp mm from rfl]
 rw [qE (ks':=[.int .u8 2]) (vs':=[.str fC]) zn rfl rfl]
 rw [qE (ks':=[.int .u8 2,.int .u8 3]) (vs':=[.str fC,.str j9]) lq rfl rfl]
 rw [qE (ks':=[.int .u8 2,.int .u8 3,.int .u8 4]) (vs':=[.str fC,.str j9,.str gO]) lq rfl rfl]
 have e1:dD aQ ((((aQ.new mm (.mp [] [])).set mm (.mp [.int .u8 2] [.str fC])).set mm (.mp [.int .u8 2,.int .u8 3] [.str fC,.str j9])).set mm (.mp [.int .u8 2,.int .u8 3,.int .u8 4] [.str fC,.str j9,.str gO])) :=
  (((bE ur).set ur.1).set ur.1).set ur.1
 have Ox:((((aQ.new mm (.mp [] [])).set mm (.mp [.int .u8 2] [.str fC])).set mm (.mp [.int .u8 2,.int .u8 3] [.str fC,.str j9])).set mm (.mp [.int .u8 2,.int .u8 3,.int .u8 4] [.str fC,.str j9,.str gO])).mp mm=some ([.int .u8 2,.int .u8 3,.int .u8 4],[.str fC,.str j9,.str gO]):=lq
 have h2:=h1.mono e1
 generalize (((aQ.new mm (.mp [] [])).set mm _).set mm _).set mm _=bg at *
 refine gk n4 m4 h2 (show _=some (.int .u8 k) from rfl) ?_
 have NJ:gI (some (.i,9)) (some (AV.str [])) (.mp mm) (.int .u8 k) false bg=.val (.str (A3 k)):=by
  simp only [gI,mL,Ox]
  rcases EC with rfl | rfl | rfl <;> rfl
 rw [NJ,al]
 refine cW (dC (fun u hu=>by rw [kH] at hu; subst hu; exact hw) (by simp) h2 hb fun cz h3 b3=>gk n4 m4 h3 rfl ?_)
 refine mx h3 b3 fun dZ h4 pN=>?_
 exact key b4 aQ dZ n4 m4 h4 pN up
theorem I6 {A:Tre} (hp:ff v L pl [A]):jf 180 v (.mk 2 x nn m a [A]) pl:=by
 intro b aw U aL R z vk bM h hb hk
 have e:(Tre.mk 2 x nn m a [A]).pr=[A3 2].map aP++(dM x::([eD].map aP++(A.pr++([dO].map aP++[])))):=by rw [Tre.c6]; simp [ck,A3]
 rw [e] at hb
 obtain ⟨p,rfl,g,_⟩:=hp.one
 refine Ep (k:=2) (.inl rfl) h hb (fun l af h' e'=>hk af (by rw [e']; exact h')) fun b4 aQ bg n4 m4 h2 b2 up=>?_
 intro j hj
 refine gk n4 m4 h2 (show _=some (.int .u8 2) from rfl) (fi rfl ?_)
 refine cW (dC (by decide) (by decide) h2 b2 fun cz h3 b3=>?_)
 refine ja (i:=0) bM rfl ?_
 refine qW g h3 b3 fun dZ h4 pN=>hj _ _ ?_
 refine cW (dC (by decide) (by decide) h4 pN fun eW h5 _=>aj.mk (hk _ (up _ _ ?_)))
 rw [e]; simpa using h5
theorem Sq {k:Int} {ps:List Tre} {B C:Tre} (Ha:k=3\/k=4) (Cq:ps.length <= 900) (hp:ff v L pl (ps++[B,C])):jf 180 v (.mk k x nn m a (ps++[B,C])) pl:=by
 intro b aw U aL R z vk bM h hb hk
 have e:(Tre.mk k x nn m a (ps++[B,C])).pr=[A3 k].map aP++(dM x::([ek].map aP++(dr dW (ps.map Tre.pr)++([eV,eD].map aP++(B.pr++([iJ].map aP++(C.pr++([dO].map aP++[])))))))):=by
  rw [Tre.c6]
  have e1:(ps++[B,C]).map (fun t=>(t.kind,t.pr))=(ps.map fun t=>(t.kind,t.pr))++[(B.kind,B.pr),(C.kind,C.pr)]:=by simp
  rw [e1]
  generalize hq:ps.map (fun t=>(t.kind,t.pr))=q
  have e3:ps.map Tre.pr=q.map (·.2):=by rw [<- hq,List.map_map]; rfl
  rw [e3]
  have el:(q++[(B.kind,B.pr),(C.kind,C.pr)]).length - 2=q.length:=by simp
  have Zd:(q++[(B.kind,B.pr),(C.kind,C.pr)]).length - 1=q.length+1:=by simp
  rcases Ha with rfl | rfl <;> simp [ck,A3,el,Zd,mv]
 rw [e] at hb
 have hlen:=hp.len
 rw [cZ,gu,List.length_singleton] at hlen
 obtain ⟨qj,sG⟩:=hp.app
 obtain ⟨p,q,yl,⟨gB,_⟩,gC,_⟩:=sG.two
 have cV:pl ≠ []:=fun e=>by rw [e] at hlen; simp at hlen
 have hpB:pl[ps.length]?=some p:=by
  have:(pl.drop ps.length)[0]?=some p:=by rw [yl]; rfl
  simpa using this
 have hpC:pl[ps.length+1]?=some q:=by
  have:(pl.drop ps.length)[1]?=some q:=by rw [yl]; rfl
  simpa using this
 refine Ep (k:=k) (by omega) h hb (fun l af h' e'=>hk af (by rw [e']; exact h')) fun b4 aQ bg n4 m4 h2 b2 up=>?_
 intro j hj
 refine gk n4 m4 h2 (show _=some (.int .u8 k) from rfl) (bm (by omega) ?_)
 rw [bM.len,al,pB]
 refine ⟨aW (by omega) (by omega),?_⟩
 have mM:((pl.length:Int) - 2)=((ps.length:Nat):Int):=by omega
 rw [mM]
 refine cW (dC (by decide) (by decide) h2 b2 fun cz h3 b3=>?_)
 refine jC (i:=0) (j:=ps.length) bM cV (by omega) (by omega) (eG _ _ _) rfl fun c=>?_
 rw [dQ]
 refine Aw (.inr ⟨_,rfl⟩) qj (by omega) h3 b3 fun dZ h4 pN=>?_
 refine ow (dC (by decide) (by decide) h4 pN fun eW h5 b5=>?_)
 refine ja bM hpB ?_
 refine qW gB h5 b5 fun oU h6 b6=>?_
 refine cW (dC (by decide) (by decide) h6 b6 fun jN h7 b7=>?_)
 rw [cr]
 refine ⟨aW (by omega) (by omega),?_⟩
 have uq:((ps.length:Nat):Int)+1=((ps.length+1:Nat):Int):=by omega
 rw [uq]
 refine ja bM hpC ?_
 refine qW gC h7 b7 fun Bi h8 b8=>hj _ _ ?_
 refine cW (dC (by decide) (by decide) h8 b8 fun ub h9 _=>aj.mk (hk _ (up _ _ ?_)))
 rw [e]; simpa using h9
theorem Sr {A:Tre} (hv:cB v L.length (c8 L)) (hp:ff v L pl [A]) (hA:cD A.kind=true):jf 183 v (.mk 19 x nn m a [A]) pl:=by
 intro b aw U aL R z vk bM h hb hk
 have e:(Tre.mk 19 x nn m a [A]).pr=[s0].map aP++(cY A.kind 4 A.pr++[]):=by rw [Tre.c6]; simp [ck]
 rw [e] at hb
 obtain ⟨p,rfl,g,xA,NZ,NI⟩:=hp.one
 refine Fs ?_
 unfold Ic
 refine fK h fun b4 aQ n4 m4 h1 up=>gk n4 m4 h1 (show _=some (.int .u8 19) from rfl) (fi rfl ?_)
 refine cW (dC (by decide) (by decide) h1 hb fun bg h2 b2=>?_)
 refine ja (i:=0) bM rfl ?_
 refine wk (least:=4) hv NZ NI hA g h2 b2 fun cz h3 _=>aj.mk (hk _ (up _ _ ?_))
 rw [e]; simpa using h3
def px (hO:Nat):List (List UInt8 × Int):=match opsL.find? fun p=>p.1 == (hO:Int) with | some p=>p.2 | none=>[]
theorem OI {k:Int} (hk:k ∈ tP):(∀ q ∈ px (dk k),q.2=k->q=(oS k,k))/\(oS k,k) ∈ px (dk k)/\(px (dk k)).Nodup:=by
 simp only [tP,cF,List.not_mem_nil,or_false] at hk
 rcases hk with rfl | rfl | rfl | rfl | rfl | rfl | rfl | rfl <;> decide
theorem S5 {k:Int} (hk:k ∈ tP) (U:St):gI (some (.i,185)) (some AV.lr) opsV (.int .i64 (dk k:Nat)) false U=.val (.gb ((px (dk k)).map fun p=>(jd p).1) ((px (dk k)).map fun p=>(jd p).2)):=by
 simp only [tP,cF,List.not_mem_nil,or_false] at hk
 rcases hk with rfl | rfl | rfl | rfl | rfl | rfl | rfl | rfl <;> rfl
theorem Fr.iter {o:Nat} {y:List (AV × AV) × Option (AV × AV)} (h:Fr b U af) (n:o ≠ b) (k:U.iter o=some y):af.iter o=some y:=by
 cases e:U.live o with
 | none=>simp [St.iter,e] at k
 | some x =>
   have:af.live o=U.live o:=(h o x n e (by intro t ht; subst ht; simp [St.iter,e] at k)).trans e.symm
   unfold St.iter at k ⊢
   rw [this]; exact k
theorem AI {o c:Nat} {y:List AV} {z:List (AV × AV) × Option (AV × AV)} (h:U.box c=some y) (k:U.iter o=some z):c ≠ o:=by
 rintro rfl
 unfold St.box at h; unfold St.iter at k
 split at h
 . rename_i e; simp [e] at k
 . rename_i e; simp [e] at k
 . cases h
theorem JK {o c:Nat} {y:Tok} {z:List (AV × AV) × Option (AV × AV)} (h:U.tok c=some y) (k:U.iter o=some z):c ≠ o:=by
 rintro rfl
 unfold St.tok at h; unfold St.iter at k
 split at h
 . rename_i e; simp [e] at k
 . cases h
theorem PS.Wv {o:Nat} {z:List (AV × AV) × Option (AV × AV)} {x:Live} (h:PS b v aw aL U) (hn:aw.live o=none) (ho:U.iter o=some z):PS b v aw aL (U.set o x):=by
 obtain ⟨⟨vl,h1,h2⟩,h3⟩:=h
 refine ⟨⟨vl,by rw [bf (AI h1 ho)]; exact h1,?_⟩,fun c y hc hy ht=>?_⟩
 . refine ⟨?_,h2.z,h2.t,sR _⟩
   rcases h2.g with g | ⟨τ,r1,r2,r3⟩
   . exact .inl g
   . exact .inr ⟨τ,r1,by rw [il (JK r2 ho)]; exact r2,r3⟩
 . rw [dy,if_neg (fun e=>by subst e; rw [hn] at hy; cases hy)]
   exact h3 c y hc hy ht
theorem J3 {k:Int} {A:Tre} {rs:List Tre} (tD:k ∈ tP) (hrs:(k=25/\rs=[]/\eg nn=true)\/(k ≠ 25/\∃ B,rs=[B]/\cD B.kind=true)) (hv:cB v L.length (c8 L)) (hp:ff v L pl (A::rs)) (hA:cD A.kind=true):jf 183 v (.mk k x nn m a (A::rs)) pl:=by
 intro b aw U aL R z vk bM h hb hk
 obtain ⟨q1,q2,q3⟩:=OI tD
 have afS:2 <= dk k/\dk k <= 8:=by
  simp only [tP,cF,List.not_mem_nil,or_false] at tD
  rcases tD with rfl | rfl | rfl | rfl | rfl | rfl | rfl | rfl <;> decide
 have hk8:dk k=8 ↔ k=25:=by
  simp only [tP,cF,List.not_mem_nil,or_false] at tD
  rcases tD with rfl | rfl | rfl | rfl | rfl | rfl | rfl | rfl <;> decide
 have hkT:cD k=true:=by
  simp only [tP,cF,List.not_mem_nil,or_false] at tD
  rcases tD with rfl | rfl | rfl | rfl | rfl | rfl | rfl | rfl <;> decide
 have aep:k ≠ 19:=by
  simp only [tP,cF,List.not_mem_nil,or_false] at tD
  omega
 have cV:oS k ≠ []:=by
  simp only [tP,cF,List.not_mem_nil,or_false] at tD
  rcases tD with rfl | rfl | rfl | rfl | rfl | rfl | rfl | rfl <;> decide
 obtain ⟨tl,rU⟩:∃ tl,tl=if k=25 then [iC nn] else match rs with | [B]=>cY B.kind (dk k+1) B.pr | _=>[]:=⟨_,rfl⟩
 have e:(Tre.mk k x nn m a (A::rs)).pr=cY A.kind (if dk k=5 then 6 else dk k) A.pr++([oS k].map aP++tl):=by
  rw [Tre.c6,rU]
  simp only [tP,cF,List.not_mem_nil,or_false] at tD
  rcases hrs with ⟨rfl,rfl,_⟩ | ⟨Lv,B,rfl,_⟩
  . simp [ck,dk,oS]
  . rcases tD with rfl | rfl | rfl | rfl | rfl | rfl | rfl | rfl
    all_goals first
     | exact absurd rfl Lv
     | simp [ck,dk]
 rw [e] at hb
 obtain ⟨p0,pr,rfl⟩:∃ p r,pl=p::r:=by
  have:=hp.len
  cases pl with
  | nil=>simp at this
  | cons p r=>exact ⟨p,r,rfl⟩
 obtain ⟨gA,xA,NZ,NI⟩:=hp.nd 0 p0 A rfl rfl
 refine Fs ?_
 unfold Ic
 refine fK h fun b4 aQ n4 m4 h1 up=>gk n4 m4 h1 (show _=some (.int .u8 k) from rfl) (bm aep ?_)
 refine gk n4 m4 h1 (show _=some (.int .u8 k) from rfl) ?_
 obtain ⟨vl,fP⟩:=h1.ld
 refine zk (l:=[]) fP ?_
 rw [bL,E6 hkT]
 intro j hj
 have body:j (.box b 0) vk (.box b4 0) (.int .i64 (dk k:Nat)) (.int .i64 ((if dk k=5 then 6 else dk k:Nat):Int)) aQ:=by
  refine hj _ _ _ _ _ _ ?_
  refine ja (i:=0) bM rfl ?_
  refine wk hv NZ NI hA gA h1 hb fun bg h2 b2=>?_
  obtain ⟨vl2,SW⟩:=h2.ld
  have m4:=h2.fr.bo n4 m4
  have up:∀ l af,PS b v bg l af->PS b v aw l af:=fun l af h'=>up l af (h2.app h')
  have h2:=h2.wi
  simp only [eo,al]
  refine fe (dj SW rfl ?_)
  rw [S5 tD,al]
  have SV:∀ (l:List (List UInt8 × Int)) fk,tT (some fk) (.gb (l.map fun p=>(jd p).1) (l.map fun p=>(jd p).2))=.new .it none (.iter (l.map jd) none):=fun l fk=>by rw [<- zip_map]; rfl
  rw [SV,pq]
  intro o ho
  rw [show NV.at o .it=AV.it o from rfl]
  have h3:=h2.mono (bE ho (x:=.iter ((px (dk k)).map jd) none))
  have it3:(bg.new o (.iter ((px (dk k)).map jd) none)).iter o=some ((px (dk k)).map jd,none):=by simp
  have fo:bg.live o=none:=ho.1
  generalize jF:aL++cY A.kind (if dk k=5 then 6 else dk k) A.pr=tk at *
  refine ⟨fun mm w0 w2 w4 w6 w42 af=>∃ (l2 jP:List (List UInt8 × Int)) (c2:Option (AV × AV)),w0=.box b 0/\w2=vk/\w4=.box b4 0/\w6=.int .i64 (dk k:Nat)/\w42=.it o/\af.iter o=some (l2.map jd,c2)/\mm=l2.length/\(jP++l2).Perm (px (dk k))/\PS b v bg (tk++if (oS k,k) ∈ jP then [aP (oS k)] else []) af,
   ⟨_,px (dk k),[],none,rfl,rfl,rfl,rfl,rfl,it3,rfl,by simp,by simpa using h3⟩,?_⟩
  rintro mm w0 w2 w4 w6 w42 cz ⟨l2,jP,c2,rfl,rfl,rfl,rfl,rfl,hit,rfl,Hm,h4⟩
  refine DR hit (fun hl=>?_) (fun p l3 ll=>?_)
  . subst hl
    rw [gw] at Hm
    rw [if_pos (Hm.mem_iff.2 q2)] at h4
    have pN:(tk++[aP (oS k)]++tl).length <= NT:=by simpa using b2
    simp only [bH,dQ,gH,al,bG]
    rcases hrs with ⟨vJ,_,hnn⟩ | ⟨Lv,B,hB,hBT⟩
    . have h8:=hk8.2 vJ
      refine fi (by omega) (gk n4 m4 h4 (show _=some (.int .i64 nn) from rfl) ?_)
      rw [if_pos vJ] at rU
      rw [rU] at pN
      refine p4 hnn h4 pN fun eW h5 _=>aj.mk (hk _ (up _ _ ?_))
      rw [e,rU,<- kI,jF,<- kI]; exact h5
    . have h8:dk k ≠ 8:=fun e=>Lv (hk8.1 e)
      subst hB
      rw [if_neg Lv] at rU
      simp only at rU
      refine bm (by omega) ?_
      obtain ⟨q0,hq0,gB,xB,hxB,hkB⟩:∃ q0,(p0::pr)[1]?=some q0/\pD v q0 B/\∃ x,L[q0]?=some x/\x.kind=B.kind:=by
       have:=hp.len
       match pr,this with
       | [q0],_=>exact ⟨q0,rfl,hp.nd 1 q0 B rfl rfl⟩
      refine ja (i:=1) bM hq0 ?_
      rw [cr]
      refine ⟨aW (by omega) (by omega),?_⟩
      have uq:((dk k:Nat):Int)+1=((dk k+1:Nat):Int):=by omega
      rw [uq]
      rw [rU] at pN
      refine wk (rest:=[]) hv hxB hkB hBT gB h4 (by simpa using pN) fun eW h5 _=>aj.mk (hk _ (up _ _ ?_))
      rw [e,rU,<- kI,jF,<- kI]; exact h5
  . have he:mf (.it o) (cz.set o (.iter (l3.map jd) (some (jd p))))=.val (.aG [(jd p).1,(jd p).2]):=by simp [mf]
    have h5:=h4.Wv (x:=.iter (l3.map jd) (some (jd p))) fo hit
    have it5:(cz.set o (.iter (l3.map jd) (some (jd p)))).iter o=some (l3.map jd,some (jd p)):=by simp
    have aet:o ≠ b:=fun e=>by
     subst e
     obtain ⟨tX,aeG⟩:=h4.ld
     exact AI aeG hit rfl
    have F5:(jP++[p]++l3).Perm (px (dk k)):=by
     rw [kI]
     exact (List.Perm.append_left jP ll).trans Hm
    have hlen:l3.length < l2.length:=by rw [<- ll.length_eq]; simp
    have hnd:(jP++[p]++l3).Nodup:=F5.nodup_iff.2 q3
    have aey:p ∈ px (dk k):=F5.mem_iff.1 (by simp)
    simp only [bH,dQ,gH,al,bT]
    rw [he]
    simp only [bH,dQ,gH,al,List.drop_succ_cons]
    refine gk n4 m4 h5 (show _=some (.int .u8 k) from rfl) ?_
    rw [show (jd p).2=.int .u8 p.2 from rfl,show (jd p).1=.str p.1 from rfl,aT,al]
    refine cu (fun rS=>?_) fun rS=>?_
    . have yl:=q1 p aey rS
      have Hi:(oS k,k) ∉ jP:=fun hm=>by
       rw [<- yl] at hm
       rw [List.nodup_append,List.nodup_append] at hnd
       exact hnd.1.2.2 p hm p (by simp) rfl
      rw [if_neg Hi,gw] at h5
      have qj:p.1=oS k:=by rw [yl]
      rw [qj]
      refine cW (dC (ws:=[oS k]) (rest:=tl) (fun u hu=>by rw [kH] at hu; subst hu; exact cV) (by simp) h5.wi (by simpa using b2) fun oU h6 _=>?_)
      refine ⟨l3.length,hlen,l3,jP++[p],some (jd p),rfl,rfl,rfl,rfl,rfl,h6.fr.iter aet it5,rfl,F5,?_⟩
      rw [if_pos (by rw [<- yl]; simp)]
      exact h5.app h6
    . refine ⟨l3.length,hlen,l3,jP++[p],some (jd p),rfl,rfl,rfl,rfl,rfl,it5,rfl,F5,?_⟩
      have:((oS k,k) ∈ jP++[p]) ↔ (oS k,k) ∈ jP:=by
       simp only [fN,kH]
       exact ⟨fun h=>h.resolve_right fun e=>rS (by rw [<- e]),.inl⟩
      have e3:(if (oS k,k) ∈ jP++[p] then [aP (oS k)] else [])=if (oS k,k) ∈ jP then [aP (oS k)] else []:=by
       by_cases hm:(oS k,k) ∈ jP
       . rw [if_pos hm,if_pos (this.2 hm)]
       . rw [if_neg hm,if_neg fun h=>hm (this.1 h)]
      rw [e3]
      exact h5
 refine fh (cu (fun h5=>?_) fun h5=>?_)
 . have Zt:dk k=5:=by omega
   rw [cr]
   refine ⟨aW (by omega) (by omega),?_⟩
   rw [if_pos Zt] at body
   have:((dk k:Nat):Int)+1=((6:Nat):Int):=by omega
   rw [this]; exact body
 . have Zt:¬ dk k=5:=by omega
   rw [if_neg Zt] at body
   exact body
end
end Go.Rip
namespace Go.Rip
open Go.Proofs Go.RowKit
theorem Bb {v:AV} {l:List Nd} {n:Nat} {en:Int} {bn be bt:Nat} {U:St} {B:AV->Qr->St->Prop} {Kn:St->Prop} {Ke:Nat->St->Prop} {Kr:St->Prop} {Kp:AV->St->Prop} (I:Nat->List Nat->St->Prop) (J:Nat->St->Prop)
 (hv:cB v l.length (c8 l)) (hn:n < l.length) (hlen:l.length <= 100000) (ZQ:en <= l.length)
 (Bv:∀ o ks U,I o ks U->U.box bn=some [.int .i64 (n:Nat)]/\U.box be=some [.int .i64 en]/\U.box bt=some [v])
 (CA:∀ o ks U L L',I o ks U->U.loop o=some L->I o ks (U.set o (.loop L')))
 (hJ:∀ o U L L',J o U->U.loop o=some L->J o (U.set o (.loop L')))
 (body:∀ (ks:List Nat) (fI:Nat) (x:Nd) (aQ:St) (o:Nat) (L1:fp) (q:Qr),I o ks aQ->l[fI]?=some x->(fI:Int) < en->0 < x.size->n < fI->ks.length < l.length->(∃ r,fy l en l.length (n+1)=ks++fI::r)->aQ.loop o=some L1 ->
   (∀ bg,I o (ks++[fI]) bg->x.size <= 100000->bg.loop o=some L1->q.n bg)->(∀ bg,J o bg->bg.loop o=some L1->q.r bg)->B (.int .i64 (fI:Nat)) q aQ)
 (fin:∀ ks aQ o L,ks=fy l en l.length (n+1)->I o ks aQ->aQ.loop o=some L->Kn (aQ.del o))
 (Sz:∀ aQ o L,J o aQ->aQ.loop o=some L->Kr (aQ.del o))
 (h0:∀ o L,U.dw o->I o [] (U.new o (.loop L))):qt K 1 (.func (.func 155) [] [.box bn 0,.box be 0,.box bt 0]) U (fun v q U=>q.CQ (fun U=>B v q U) U) Kn Ke Kr Kp:=by
 refine ⟨by kernel_rfl,fun o L ho G3 Nv Y=>?_⟩
 have I1:=h0 o L ho
 have L8:=u4 (U:=U) (b:=o) (L:=L)
 generalize U.new o (.loop L)=aQ at *
 refine Fp ?_
 unfold Ia
 rw [iZ (Bv _ _ _ I1).1,dQ,bN,cr]
 refine ⟨aW (by omega) (by omega),?_⟩
 refine ⟨fun m v0 v2 v3 v5 af=>∃ ks f p,m=l.length - p/\v0=.qI o/\v2=.box be 0/\v3=.box bt 0/\v5=.int .i64 (p:Nat)/\n < p/\p <= 300000/\l.length - p <= f/\ks++fy l en f p=fy l en l.length (n+1)/\I o ks af/\∃ L1,af.loop o=some L1/\L1.st .ready none=L/\L1.state=.ready/\L1.fM=none,
  ⟨_,[],l.length,n+1,rfl,rfl,rfl,rfl,by simp,by omega,by omega,by omega,rfl,I1,L,L8,by cases L; simp_all [fp.st],G3,Nv⟩,?_⟩
 clear I1 L8
 rintro m v0 v2 v3 v5 bg ⟨ks,f,p,rfl,rfl,rfl,rfl,rfl,UR,hp3,hf,iq,I2,L1,jc,gD,AX,AW⟩
 obtain ⟨k1,k2,k3⟩:=Bv _ _ _ I2
 rw [iZ k2,dQ,bN]
 simp only [a7,al,aI,aB]
 have stop:fy l en f p=[]->aj (H3 o Kn Ke Kr Kp) (.aG []) bg:=fun h=>by
  rw [h,gw] at iq
  refine aj.mk ⟨L1,jc,by rw [AX]; simp,?_⟩
  rw [AW]
  exact fin ks bg o L1 iq I2 jc
 by_cases aM:(p:Int) < en
 . have ll:p < l.length:=by omega
   obtain ⟨x,hx⟩:∃ x,l[p]?=some x:=⟨l[p],by simp [ll]⟩
   cases f with
   | zero=>omega
   | succ f =>
   have vP:fy l en (f+1) p=if 0 < x.size then p::fy l en f (p+x.size.toNat) else []:=by
    simp only [fy,hx,aM,true_and]
   simp only [aM,bZ,dN,bq,ax,ct,dI,tQ k3,dQ,iE,iF]
   refine BI hv hx fun r=>?_
   simp only [dB,ax,iF,cM,iX,List.drop,oo,iE,cx,az,if_true,al,bh]
   refine ⟨fun hs=>?_,fun hs=>?_⟩
   . rw [if_pos hs] at vP
     simp only [jW,x7]
     refine Y _ _ _ L1 rfl jc gD ?_
     refine ⟨L1,jc,AX,?_⟩
     have I3:=CA o _ _ L1 { L1 with state:=.busy } I2 jc
     have jQ:ks.length < l.length:=by
      have:=xd l en l.length (n+1)
      rw [<- iq,vP] at this
      simp at this; omega
     refine body ks p x _ o { L1 with state:=.busy } _ I3 hx aM hs UR jQ ⟨_,by rw [<- iq,vP]⟩ fF (fun cz I4 rT sB=>?_) fun cz ZA sB=>?_
     . refine ⟨_,sB,?_⟩
       have I5:=CA o _ _ _ { L1 with state:=.ready,fM:=none } I4 sB
       obtain ⟨j1,j2,j3⟩:=Bv _ _ _ I5
       simp only [bL,dA,al,cn,bG,ct,dI]
       rw [iZ j3,dQ,bN]
       refine Ee hv hx fun r=>?_
       simp only [dB,al,cM,iX,List.drop,mB,bN,cr]
       refine ⟨aW (by omega) (by omega),_,?_,ks++[p],f,p+x.size.toNat,rfl,rfl,rfl,rfl,?_,by omega,by omega,by omega,?_,I5,_,fF,by rw [<- gD]; rfl,rfl,rfl⟩
       . omega
       . congr 1; omega
       . rw [<- iq,vP]; simp
     . refine ⟨_,sB,?_⟩
       simp only [bL,dA,al,dx,bT]
       refine aj.mk ⟨_,fF,by simp,?_⟩
       exact Sz _ o _ (hJ o _ _ _ ZA sB) fF
   . rw [if_neg hs] at vP
     exact stop vP
 . simp only [aM,cE,show (false == true)=false from rfl,aZ,az,bC,if_false,al,bG]
   refine stop ?_
   cases f with
   | zero=>rfl
   | succ f =>
     simp only [fy]
     split
     . rw [if_neg (fun h=>aM h.1)]
     . rfl
theorem GR:∀ {ss:List ng} {ks:List Int},c7 ks ss=true->∀ k ∈ ks,∃ s ∈ ss,s.c.is k=true
 | [],ks,h,k,hk=>by
   have:ks.isEmpty=true:=h
   rw [List.isEmpty_iff] at this
   rw [this] at hk; cases hk
 | s::ss,ks,h,k,hk=>by
   rw [c7] at h
   split at h
   . cases h
   . rename_i hm
     have pF:(ks.take (min (ks.length - (ss.map (·.least)).sum) s.nL)).takeWhile s.c.is <+: ks:=(qS _).trans (List.take_prefix _ _)
     obtain ⟨r,hr⟩:=pF
     generalize hq:(ks.take (min (ks.length - (ss.map (·.least)).sum) s.nL)).takeWhile s.c.is=q at *
     have bA:∀ k ∈ q,s.c.is k=true:=fun k hk=>by
      rw [<- hq] at hk
      have key:∀ l:List Int,k ∈ l.takeWhile s.c.is->s.c.is k=true:=fun l=>by
       induction l with
       | nil=>simp
       | cons c l ih =>
         simp only [lL]
         split
         . rename_i hc
           intro h
           rcases cF.1 h with rfl | h
           . exact hc
           . exact ih h
         . simp
      exact key _ hk
     rw [<- hr] at h hk
     rw [List.drop_left] at h
     rcases fN.1 hk with hk | hk
     . exact ⟨s,by simp,bA k hk⟩
     . obtain ⟨s',h1,h2⟩:=GR h k hk
       exact ⟨s',by simp [h1],h2⟩
theorem SZ {c:Prop} [Decidable c] {a f:fQ} {B:Option fQ} {G:Prop} (h:(if c then some a else B)=some f) (h1:a=f->G) (h2:B=some f->G):G:=by
 split at h
 . exact h1 (Option.some.inj h)
 . exact h2 h
theorem SC {k:Int} {f:fQ} (h:bw k=some f):∀ s ∈ f.kids,s.c.is 1=false:=by
 unfold bw at h
 repeat' (refine SZ h (fun h=>?_) (fun h=>?_))
 all_goals first
  | (subst h; simp [mZ.is,ki,ey,jb,cD,ln]; done)
  | cases h
theorem vZ {t:Tre} (h:t.ok=true):∀ c ∈ t.kids,c.kind ≠ 1/\c.ok=true:=by
 cases t with
 | mk k x n m a ks =>
   obtain ⟨f,hf,_,h2,h3⟩:=Tre.xm h
   intro c hc
   refine ⟨fun e=>?_,h3 c hc⟩
   obtain ⟨s,hs,hk⟩:=GR h2 c.kind (List.mem_map_of_mem hc)
   rw [e,SC hf s hs] at hk
   cases hk
def qN (k:Int):FuncId:=if ki k=true then 180 else if ey k=true then 182 else if 17 <= k/\k <= 25 then 183 else if 9 <= k/\k <= 16 then 184 else if cD k=true then 186 else 187
section
variable {b n:Nat} {U aw aQ af:St} {v:AV} {aL l rest:List Tx} {L:List Nd} {t:Tre}
theorem PS.ir {o:Nat} {z:fp} {bg:St} (h:PS b v aw aL U) (hn:aw.live o=none) (ho:U.loop o=some z) (hs:∀ c,c ≠ o->bg.live c=U.live c):PS b v aw aL bg:=by
 obtain ⟨⟨vl,h1,h2⟩,h3⟩:=h
 refine ⟨⟨vl,by rw [fE (hs _ (bV h1 ho))]; exact h1,?_⟩,fun c y hc hy ht=>?_⟩
 . refine ⟨?_,h2.z,h2.t,sR _⟩
   rcases h2.g with g | ⟨τ,r1,r2,r3⟩
   . exact .inl g
   . exact .inr ⟨τ,r1,by rw [kg (hs _ (rC r2 ho))]; exact r2,r3⟩
 . rw [hs c fun e=>by subst e; rw [hn] at hy; cases hy]
   exact h3 c y hc hy ht
theorem PS.other {vk:AV} {e sz m:Nat} {lk:List AV} (h:PS b v aw aL U) (he:e ≠ 51) (g:fW aw U vk e sz m lk) (k:∀ c x,(∀ n l,vk ≠ .vec n (.own c) l)->U.live c=some x->af.live c=some x):PS b v aw aL af:=by
 obtain ⟨⟨vl,h1,h2⟩,h3⟩:=h
 refine ⟨⟨vl,(lj g.g k).1 h1,?_⟩,fun c y hc hy ht=>?_⟩
 . refine ⟨?_,h2.z,h2.t,sR _⟩
   rcases h2.g with g' | ⟨τ,r1,r2,r3⟩
   . exact .inl g'
   . refine .inr ⟨τ,r1,?_,r3⟩
     cases e':U.live τ with
     | none=>simp [St.tok,e'] at r2
     | some y =>
       have:=k τ y (fun n' l' hv=>by
        rcases g.g with ⟨_,_,g⟩ | ⟨Bj,g,ht,_⟩
        . rw [g] at hv; cases hv
        . rw [g] at hv; cases hv
          rw [r2] at ht
          simp only [iW,Tok.mk.injEq] at ht
          exact he ht.2.1.symm) e'
       rw [kg (this.trans e'.symm)]; exact r2
 . refine k c y (fun n' l' hv=>?_) (h3 c y hc hy ht)
   rw [g.t _ _ _ hv] at hy; cases hy
end
end Go.Rip
namespace Go.Rip
open Go.Proofs Go.RowKit
section
variable {b n:Nat} {U aw aQ af:St} {v:AV} {aL l rest:List Tx} {L:List Nd} {t:Tre}
theorem PS.cG {c:Nat} {y z:List AV} (h:PS b v aw aL U) (nc:c ≠ b) (hn:aw.live c=none) (hc:U.box c=some y):PS b v aw aL (U.set c (.box z)):=by
 obtain ⟨⟨vl,h1,h2⟩,h3⟩:=h
 refine ⟨⟨vl,by rw [bf nc.symm]; exact h1,?_⟩,fun c' y' yh zc ht=>?_⟩
 . refine ⟨?_,h2.z,h2.t,sR _⟩
   rcases h2.g with g | ⟨τ,r1,r2,r3⟩
   . exact .inl g
   . exact .inr ⟨τ,r1,by rw [il (gg hc r2).symm]; exact r2,r3⟩
 . rw [dy,if_neg fun e=>by subst e; rw [hn] at zc; cases zc]
   exact h3 c' y' yh zc ht
theorem WC {s:Tre} {pl:List Nat} (hv:Sl v L) (hL:L.length <= 1000) (hz:∀ (i:Nat) (y:Nd),L[i]?=some y->y.size <= 100000) (hs:cQ L n s) (ll:pl=aX (n+1) s.kids) (hf:jf (qN s.kind) v s pl):pD v n s:=by
 intro b aw U aL R h hb hk
 obtain ⟨x,hx,nq,U3,N0,hxn,hxm,Kk⟩:=hs.lR
 have hle:=hs.le
 have pE:=s.du
 have ZJ:cM x=rN s x.size:=by unfold cM rN; rw [nq,N0,hxn,hxm,Kk]
 have Ka:fy L ((n:Int)+x.size) L.length (n+1)=pl:=by
  rw [ll,U3]; exact xe hs
 refine Pg ?_
 unfold Pf
 obtain ⟨vl,fP⟩:=h.ld
 simp only [eo,al]
 refine fe (fe (fe (dj fP rfl ?_)))
 refine Ee hv.s hx fun r=>?_
 rw [rh]
 refine ⟨by simp [cM],?_⟩
 rw [show (cM x++r).take 6=cM x from rfl,df]
 intro b4 iS
 have m4:(U.new b4 (.box [AV.int .u8 0,AV.str [],AV.int .i64 0,AV.int .i64 0,AV.int .i64 0,AV.int .i64 0])).box b4=some [AV.int .u8 0,AV.str [],AV.int .i64 0,AV.int .i64 0,AV.int .i64 0,AV.int .i64 0]:=aS
 rw [dP m4]
 refine ⟨⟨rfl,rfl,by simp⟩,?_⟩
 rw [show aK [AV.int .u8 0,AV.str [],AV.int .i64 0,AV.int .i64 0,AV.int .i64 0,AV.int .i64 0] 0 (aC (.agg (cM x)))=cM x from rfl]
 have e4:dD U ((U.new b4 (.box [AV.int .u8 0,AV.str [],AV.int .i64 0,AV.int .i64 0,AV.int .i64 0,AV.int .i64 0])).set b4 (.box (cM x))):=(bE iS).set iS.1
 have m4:((U.new b4 (.box [AV.int .u8 0,AV.str [],AV.int .i64 0,AV.int .i64 0,AV.int .i64 0,AV.int .i64 0])).set b4 (.box (cM x))).box b4=some (cM x):=bD
 have h4:=h.mono e4
 have fP:=e4.bo fP
 have n4:b4 ≠ b:=fun e=>by subst e; exact absurd iS.1 (dc (by assumption:U.box b4=some [v,vl,opsV]))
 generalize (U.new b4 _).set b4 _=aQ at *
 have up:∀ l af,PS b v aQ l af->PS b v aw l af:=fun l af h'=>h4.app h'
 have h4:=h4.wi
 rw [df]
 intro b5 lS
 have m5:(aQ.new b5 (.box [AV.aA])).box b5=some [.aA]:=aS
 have A5:=lS.cH m4
 have n5:b5 ≠ b:=(lS.cH fP).symm
 have e5:=bE lS (x:=.box [AV.aA])
 have h5:=h4.mono e5
 have fP:=e5.bo fP
 have m4:=e5.bo m4
 generalize aQ.new b5 (.box [AV.aA])=bg at *
 refine fe ?_
 rw [pA fP]
 refine ⟨by simp,?_⟩
 rw [show ([v,vl,opsV].drop 0).take 1=[v] from rfl]
 refine xh (n:=n) hv.s hx (aW (by omega) (by omega)) fun bn be bt cz d1 d2 d3 f1 f2 f3 q1 q2 q3 e3=>?_
 rw [bL]
 have h6:=h5.mono e3
 have n4n:b4 ≠ bn:=fun e=>dc m4 (e ▸ f1)
 have n4e:b4 ≠ be:=fun e=>dc m4 (e ▸ f2)
 have n4t:b4 ≠ bt:=fun e=>dc m4 (e ▸ f3)
 have n5n:b5 ≠ bn:=fun e=>dc m5 (e ▸ f1)
 have n5e:b5 ≠ be:=fun e=>dc m5 (e ▸ f2)
 have n5t:b5 ≠ bt:=fun e=>dc m5 (e ▸ f3)
 have m4:=e3.bo m4
 have m5:=e3.bo m5
 have fin:∀ (jN:St) (vk:AV),jN.box b4=some (cM x)->jN.box b5=some [vk]->cB vk pl.length (cX pl)->PS b v aQ aL jN ->
  (ae (some 0) (.box b4 0)).wp K jN (fun et U =>
  (ah (some (false,1)) et U).wp K U (fun dJ U =>
  ag K 179 [dJ] U (aq (fun fG U =>
  ao fG (
   (ah (some (true,6)) (.box b4 0) U).wp K U (fun fH U =>
   (ah (some (false,1)) (.box b5 0) U).wp K U (fun v37 U =>
   ag K 180 [.box b 0,fH,v37] U (aq (fun gL U =>
   aj R (AV.aG []) U) (aa R))) (aa R)) (aa R)) (
   (ae (some 0) (.box b4 0)).wp K U (fun v40 U =>
   (ah (some (false,1)) v40 U).wp K U (fun eY U =>
   ag K 181 [eY] U (aq (fun iu U =>
   ao iu (
    (ah (some (true,6)) (.box b4 0) U).wp K U (fun jZ U =>
    (ah (some (false,1)) (.box b5 0) U).wp K U (fun gn U =>
    ag K 182 [.box b 0,jZ,gn] U (aq (fun v46 U =>
    aj R (AV.aG []) U) (aa R))) (aa R)) (aa R)) (
    (ae (some 0) (.box b4 0)).wp K U (fun hZ U =>
    (ah (some (false,1)) hZ U).wp K U (fun v49 U =>
    (ai .geq (BT.mk false false false none false) true v49 (AV.int .u8 17)).wp K U (fun fJ U =>
    ad K (ar fJ true) (ae (some 0) (.box b4 0)) (fun gT =>
    ad K (ar fJ true) (ah (some (false,1)) gT U) (fun v53 =>
    ad K (ar fJ true) (ai .leq (BT.mk false false false none false) true v53 (AV.int .u8 25)) (fun gi =>
    (aO fJ gi (AV.bool false)).wp K U (fun gU U =>
    ao gU (
     (ah (some (true,6)) (.box b4 0) U).wp K U (fun iv U =>
     (ah (some (false,1)) (.box b5 0) U).wp K U (fun iG U =>
     ag K 183 [.box b 0,iv,iG] U (aq (fun v59 U =>
     aj R (AV.aG []) U) (aa R))) (aa R)) (aa R)) (
     (ae (some 0) (.box b4 0)).wp K U (fun ju U =>
     (ah (some (false,1)) ju U).wp K U (fun lC U =>
     (ai .geq (BT.mk false false false none false) true lC (AV.int .u8 9)).wp K U (fun je U =>
     ad K (ar je true) (ae (some 0) (.box b4 0)) (fun lD =>
     ad K (ar je true) (ah (some (false,1)) lD U) (fun nW =>
     ad K (ar je true) (ai .leq (BT.mk false false false none false) true nW (AV.int .u8 16)) (fun nX =>
     (aO je nX (AV.bool false)).wp K U (fun j0 U =>
     ao j0 (
      (ah (some (true,6)) (.box b4 0) U).wp K U (fun v70 U =>
      (ah (some (false,1)) (.box b5 0) U).wp K U (fun mA U =>
      ag K 184 [.box b 0,v70,mA] U (aq (fun v72 U =>
      aj R (AV.aG []) U) (aa R))) (aa R)) (aa R)) (
      (ae (some 0) (.box b4 0)).wp K U (fun oT U =>
      (ah (some (false,1)) oT U).wp K U (fun v75 U =>
      ag K 185 [v75] U (aq (fun v76 U =>
      ao v76 (
       (ah (some (true,6)) (.box b4 0) U).wp K U (fun sa U =>
       (ah (some (false,1)) (.box b5 0) U).wp K U (fun yq U =>
       ag K 186 [.box b 0,sa,yq] U (aq (fun v80 U =>
       aj R (AV.aG []) U) (aa R))) (aa R)) (aa R)) (
       (ah (some (true,6)) (.box b4 0) U).wp K U (fun v28 U =>
       (ah (some (false,1)) (.box b5 0) U).wp K U (fun cJ U =>
       ag K 187 [.box b 0,v28,cJ] U (aq (fun v30 U =>
       aj R (AV.aG []) U) (aa R))) (aa R)) (aa R))) (aa R))) (aa R)) (aa R))) (aa R))))) (aa R)) (aa R)) (aa R))) (aa R))))) (aa R)) (aa R)) (aa R))) (aa R))) (aa R)) (aa R))) (aa R))) (aa R)) (aa R):=by
  intro jN vk m4 m5 bM h7
  have call:∀ f,qN s.kind=f->(ah (some (true,6)) (.box b4 0) jN).wp K jN (fun fH U=>(ah (some (false,1)) (.box b5 0) U).wp K U (fun v37 U=>ag K f [.box b 0,fH,v37] U (aq (fun gL U=>aj R (AV.aG []) U) (aa R))) (aa R)) (aa R):=by
   intro f NC
   rw [pA m4]
   refine ⟨by simp [cM],?_⟩
   rw [show ((cM x).drop 0).take 6=cM x from rfl]
   refine dj m5 rfl ?_
   rw [ZJ,<- NC]
   exact hf _ _ _ _ _ _ _ bM h7 hb fun af h'=>aj.mk (hk af (up _ _ h'))
  have Oi:∀ {K':AV->St->Prop} {Kp:AV->St->Prop},K' (.int .u8 s.kind) jN->(ae (some 0) (.box b4 0)).wp K jN (fun et U=>(ah (some (false,1)) et U).wp K U K' Kp) Kp:=by
   intro K' Kp hK
   refine fe (dj m4 (show _=AV.int .u8 x.kind::_ from rfl) ?_)
   rw [nq]; exact hK
  refine Oi ((CW s.kind).go ?_)
  cases c1:ki s.kind with
  | true=>exact ca (call 180 (by unfold qN; rw [if_pos c1]))
  | false =>
  refine bO (Oi ((CX s.kind).go ?_))
  cases c2:ey s.kind with
  | true=>exact ca (call 182 (by unfold qN; rw [if_neg (by simp [c1]),if_pos c2]))
  | false =>
  refine bO (Oi ?_)
  have Ez:qN s.kind=if 17 <= s.kind/\s.kind <= 25 then 183 else if 9 <= s.kind/\s.kind <= 16 then 184 else if cD s.kind=true then 186 else 187:=by
   unfold qN; rw [if_neg (by simp [c1]),if_neg (by simp [c2])]
  have rng:∀ (lo hi:Int) (A B:AV->St->Prop),(lo <= s.kind/\s.kind <= hi->A (.bool true) jN)->(¬ (lo <= s.kind/\s.kind <= hi)->B (.bool false) jN) ->
   (ai .geq (BT.mk false false false none false) true (.int .u8 s.kind) (AV.int .u8 lo)).wp K jN (fun fJ U =>
   ad K (ar fJ true) (ae (some 0) (.box b4 0)) (fun gT =>
   ad K (ar fJ true) (ah (some (false,1)) gT U) (fun v53 =>
   ad K (ar fJ true) (ai .leq (BT.mk false false false none false) true v53 (AV.int .u8 hi)) (fun gi =>
   (aO fJ gi (AV.bool false)).wp K U (fun gU U=>ao gU (A gU U) (B gU U)) (aa R))))) (aa R):=by
   intro lo hi A B hA hB
   rw [dT,al]
   by_cases h1:lo <= s.kind
   . simp only [h1,bZ,aI,dN,aB,bq]
     refine hU (dz m4 (show _=AV.int .u8 x.kind::_ from rfl) ?_)
     rw [nq,fD,ax]
     simp only [az,if_true,al]
     by_cases h2:s.kind <= hi
     . simp only [h2,bZ]; exact ca (hA ⟨h1,h2⟩)
     . simp only [h2,cE]; exact bO (hB fun h3=>h2 h3.2)
   . simp only [h1,cE,aI,show (false == true)=false from rfl,aB,aZ,az,bC,if_false,al]
     exact bO (hB fun h3=>h1 h3.1)
  refine rng 17 25 _ _ (fun h1=>call 183 (by rw [Ez,if_pos h1])) fun h1=>Oi (rng 9 16 _ _ (fun h2=>call 184 (by rw [Ez,if_neg h1,if_pos h2])) fun h2=>Oi ((xy s.kind).go ?_))
  cases c3:cD s.kind with
  | true=>exact ca (call 186 (by rw [Ez,if_neg h1,if_neg h2,if_pos c3]))
  | false=>exact bO (call 187 (by rw [Ez,if_neg h1,if_neg h2,if_neg (by simp [c3])]))
 refine Bb (n:=n) (en:=(n:Int)+x.size)
  (fun o ks af=>(af.box bn=some [.int .i64 (n:Nat)]/\af.box be=some [.int .i64 ((n:Int)+x.size)]/\af.box bt=some [v])/\af.box b4=some (cM x)/\(∃ vk,af.box b5=some [vk]/\fW aQ af vk 3 1 ks.length (cX ks))/\aQ.live o=none/\PS b v aQ aL af)
  (fun _ _=>False) hv.s (by omega) (by omega) (by omega)
  (fun o ks af hI=>hI.1) (fun o ks af L0 L' hI ho=>?_) (fun o af L0 L' hJ ho=>hJ) (fun ks fI y af o L1 q hI hy aM acG hnk jQ pF jc NQ UZ=>?_) (fun ks af o L0 iq hI Ev=>?_) (fun af o L0 hJ Ev=>hJ.elim) (fun o L0 ho=>?_)
 . obtain ⟨⟨i1,i2,i3⟩,i4,⟨vk,i5,i6⟩,i7,i8⟩:=hI
   have kb:∀ {c y},af.box c=some y->(af.set o (.loop L')).box c=some y:=fun h=>by rw [bf (bV h ho)]; exact h
   exact ⟨⟨kb i1,kb i2,kb i3⟩,kb i4,⟨vk,kb i5,i6.loop ho (i6.ex.set i7)⟩,i7,i8.ir i7 ho fun c hc=>by rw [dy,if_neg hc]⟩
 . obtain ⟨⟨i1,i2,i3⟩,i4,⟨vk,i5,i6⟩,i7,i8⟩:=hI
   refine dj i5 rfl ?_
   refine Ds rfl rfl ?_
   refine wx i6 (m:=1) (l2:=[.int .i64 (fI:Nat)]) rfl rfl (by omega) (by omega) fun eW v' g2 k2=>?_
   have kb:∀ {c y},af.box c=some y->eW.box c=some y:=fun h=>(lj i6.g k2).1 h
   have kl:∀ {c L},af.loop c=some L->eW.loop c=some L:=fun h=>(lj i6.g k2).2 h
   have i8:=i8.other (by decide) i6 k2
   have ni:v'.eF=true/\aC v'=[v']:=by
    rcases g2.g with ⟨h0,_,_⟩ | ⟨τ,r1,_,_⟩
    . omega
    . rw [r1]; exact ⟨rfl,rfl⟩
   have i5:=kb i5
   rw [dP i5]
   refine ⟨⟨ni.1,by rw [ni.2]; rfl,by simp⟩,?_⟩
   have i8':PS b v aQ aL (eW.set b5 (.box (aK [vk] 0 (aC v')))):=i8.cG n5 lS.1 i5
   refine NQ _ ⟨⟨?_,?_,?_⟩,?_,⟨v',?_,?_⟩,i7,i8'⟩ ?_ ?_
   . rw [bf n5n.symm]; exact kb i1
   . rw [bf n5e.symm]; exact kb i2
   . rw [bf n5t.symm]; exact kb i3
   . rw [bf A5]; exact kb i4
   . rw [bD,ni.2]; rfl
   . have:fW aQ (eW.set b5 (.box (aK [vk] 0 (aC v')))) v' 3 1 (ks.length+1) (cX ks++[.int .i64 (fI:Nat)]):=by
      refine ⟨?_,g2.z,g2.t,g2.ex.set lS.1⟩
      rcases g2.g with g | ⟨τ,r1,r2,r3⟩
      . exact .inl g
      . exact .inr ⟨τ,r1,by rw [il (gg i5 r2).symm]; exact r2,r3⟩
     simpa [cX] using this
   . exact hz _ _ hy
   . rw [fT]; exact kl jc
     rw [dy,if_neg (bV i5 (kl jc)).symm]
 . obtain ⟨⟨i1,i2,i3⟩,i4,⟨vk,i5,i6⟩,i7,i8⟩:=hI
   have kb:∀ {c y},af.box c=some y->(af.del o).box c=some y:=fun h=>by rw [jv (bV h Ev)]; exact h
   have i8:=i8.ir (bg:=af.del o) i7 Ev fun c hc=>by rw [kD,if_neg hc]
   rw [Ka] at iq
   subst iq
   exact fin _ vk (kb i4) (kb i5) i6.sl i8
 . have e:=bE ho (x:=.loop L0)
   exact ⟨⟨e.bo q1,e.bo q2,e.bo q3⟩,e.bo m4,⟨.aA,e.bo m5,fW.nil ((e5.trans e3).trans e)⟩,(e5.trans e3).fresh ho.1,h6.mono e⟩
end
end Go.Rip
namespace Go.Rip
open Go.Proofs Go.RowKit
section
variable {v:AV} {L:List Nd}
theorem Zk {s:Tre} {pl:List Nat} (hv:cB v L.length (c8 L)) (h9:s.flat.length <= 900) (ho:s.ok=true) (h1:s.kind ≠ 1) (hp:ff v L pl s.kids):jf (qN s.kind) v s pl:=by
 cases s with
 | mk k x nn m a ks =>
   obtain ⟨fo,eX,g1,g2,g3⟩:=Tre.xm ho
   obtain ⟨f1,f2,f3,f4,f5,f6⟩:=oc g1
   have hlen:(Tre.bQ ks).length+1=(Tre.mk k x nn m a ks).flat.length:=by rw [Tre.fY]; simp
   have jQ:ks.length <= 900:=by have:=Tre.mC ks; omega
   have hp:ff v L pl ks:=hp
   have oP:k ≠ 1:=h1
   have hk:(k=2\/(k=3\/k=4))\/k=5\/(k=6\/k=7)\/k=8\/k=9\/k=10\/(k=11\/k=15)\/k=12\/k=13\/k=14\/k=16\/(k ∈ tP/\k ≠ 25)\/k=19\/k=25\/k=26\/(k=27\/k=28\/k=29\/k=30)\/k=31\/k=32\/k=33\/k=34\/k=35\/k=36\/k=37:=by
    by_cases hr:2 <= k/\k <= 37
    . simp only [tP,cF,List.not_mem_nil,or_false]; omega
    . exfalso
      unfold bw at eX
      rw [if_neg (by omega),if_neg (by omega),if_neg (by omega),if_neg (by omega),if_neg (by omega),if_neg (by omega),if_neg (by omega),if_neg (by omega),if_neg (by omega),if_neg (by omega),if_neg (by omega),if_neg (by omega),if_neg (by omega),if_neg (by omega),if_neg (by omega),if_neg (by omega),if_neg (by omega),if_neg (by omega),if_neg (by omega),if_neg (by omega),if_neg (by omega)] at eX
      cases eX
   have nil:c7 (ks.map Tre.kind) []=true->ks=[]:=fun h=>by
    have:(ks.map Tre.kind).isEmpty=true:=h
    simpa using this
   have term:∀ {c:Tre},mZ.term.is c.kind=true->cD c.kind=true:=fun h=>h
   rcases hk with (rfl | hk) | rfl | hk | rfl | rfl | rfl | hk | rfl | rfl | rfl | rfl | ⟨hk,vJ⟩ | rfl | rfl | rfl | hk | rfl | rfl | rfl | rfl | rfl | rfl | rfl
   . obtain rfl:(⟨true,false,false,[⟨.type,1,1⟩]⟩:fQ)=fo:=by simpa [bw] using eX
     obtain ⟨A,rfl,_⟩:=lY g2
     exact I6 hp
   . have od:fo=⟨true,false,false,[⟨.kind 5,0,900⟩,⟨.base,1,1⟩,⟨.term,1,1⟩]⟩:=by rcases hk with rfl | rfl <;> simpa [bw] using eX.symm
     subst od
     obtain ⟨ps,B,C,rfl,_,_,_,_⟩:=xg (by omega) g2
     have:qN k=180:=by rcases hk with rfl | rfl <;> rfl
     show jf (qN k) _ _ _
     rw [this]
     exact Sq hk (by simp at jQ; omega) hp
   . obtain rfl:(⟨true,false,false,[⟨.type,1,1⟩]⟩:fQ)=fo:=by simpa [bw] using eX
     obtain ⟨A,rfl,_⟩:=lY g2
     exact Lh hp
   . have od:fo=⟨false,true,false,[]⟩:=by rcases hk with rfl | rfl <;> simpa [bw] using eX.symm
     subst od
     obtain rfl:=nil g2
     have:qN k=182:=by rcases hk with rfl | rfl <;> rfl
     show jf (qN k) _ _ _
     rw [this]
     exact Ng hk f3
   . obtain rfl:(⟨false,false,false,[⟨.base,2,900⟩]⟩:fQ)=fo:=by simpa [bw] using eX
     obtain ⟨hl,_⟩:=F6 g2
     obtain ⟨ps,B,rfl⟩:=ly (l:=ks) (by omega)
     exact Lf (by simp at jQ; omega) hp
   . obtain rfl:(⟨false,false,false,[⟨.term,2,900⟩]⟩:fQ)=fo:=by simpa [bw] using eX
     obtain ⟨hl,hc⟩:=F6 g2
     match ks,hl with
     | A::ts,_=>exact Sv (by simp at jQ; omega) hv hp fun t ht=>hc t ht
   . obtain rfl:(⟨false,false,false,[⟨.term,3,3⟩]⟩:fQ)=fo:=by simpa [bw] using eX
     obtain ⟨A,B,C,rfl,hA,hB,hC⟩:=U7 g2
     exact Wm hv hp hA hB hC
   . have od:fo=⟨false,false,false,[⟨.term,2,2⟩]⟩:=by rcases hk with rfl | rfl <;> simpa [bw] using eX.symm
     subst od
     obtain ⟨A,B,rfl,hA,hB⟩:=xf g2
     rcases hk with rfl | rfl
     . exact GP (k:=11) (w:=nH) (u:=xZ) (by simp) hv hp hA hB
     . exact GP (k:=15) (w:=lP) (u:=ia) (by simp) hv hp hA hB
   . obtain rfl:(⟨true,true,true,[⟨.term,1,1⟩]⟩:fQ)=fo:=by simpa [bw] using eX
     obtain ⟨A,rfl,hA⟩:=lY g2
     exact Ss f3 f4 hv hp hA
   . obtain rfl:(⟨true,false,false,[⟨.term,2,2⟩]⟩:fQ)=fo:=by simpa [bw] using eX
     obtain ⟨A,B,rfl,hA,hB⟩:=xf g2
     exact Lg hv hp hA hB
   . obtain rfl:(⟨true,true,false,[⟨.term,1,1⟩]⟩:fQ)=fo:=by simpa [bw] using eX
     obtain ⟨A,rfl,hA⟩:=lY g2
     exact I7 f3 hv hp hA
   . obtain rfl:(⟨true,false,false,[⟨.term,1,1⟩]⟩:fQ)=fo:=by simpa [bw] using eX
     obtain ⟨A,rfl,hA⟩:=lY g2
     exact Su hv hp hA
   . have od:fo=⟨false,false,false,[⟨.term,2,2⟩]⟩:=by
      simp only [tP,cF,List.not_mem_nil,or_false] at hk
      rcases hk with rfl | rfl | rfl | rfl | rfl | rfl | rfl | rfl
      all_goals first
       | exact absurd rfl vJ
       | simpa [bw] using eX.symm
     subst od
     obtain ⟨A,B,rfl,hA,hB⟩:=xf g2
     have:qN k=183:=by
      simp only [tP,cF,List.not_mem_nil,or_false] at hk
      rcases hk with rfl | rfl | rfl | rfl | rfl | rfl | rfl | rfl <;> rfl
     show jf (qN k) _ _ _
     rw [this]
     exact J3 hk (.inr ⟨vJ,B,rfl,hB⟩) hv hp hA
   . obtain rfl:(⟨false,false,false,[⟨.term,1,1⟩]⟩:fQ)=fo:=by simpa [bw] using eX
     obtain ⟨A,rfl,hA⟩:=lY g2
     exact Sr hv hp hA
   . obtain rfl:(⟨false,true,false,[⟨.term,1,1⟩]⟩:fQ)=fo:=by simpa [bw] using eX
     obtain ⟨A,rfl,hA⟩:=lY g2
     exact J3 (k:=25) (rs:=[]) (by decide) (.inl ⟨rfl,rfl,f3⟩) hv hp hA
   . obtain rfl:(⟨false,true,false,[]⟩:fQ)=fo:=by simpa [bw] using eX
     obtain rfl:=nil g2
     exact Sx f3
   . have od:fo=⟨false,false,false,[]⟩:=by rcases hk with rfl | rfl | rfl | rfl <;> simpa [bw] using eX.symm
     subst od
     obtain rfl:=nil g2
     rcases hk with rfl | rfl | rfl | rfl
     . exact ui (k:=27) (w:=gz) (by simp)
     . exact ui (k:=28) (w:=gp) (by simp)
     . exact ui (k:=29) (w:=jM) (by simp)
     . exact ui (k:=30) (w:=lE) (by simp)
   . obtain rfl:(⟨true,false,false,[]⟩:fQ)=fo:=by simpa [bw] using eX
     obtain rfl:=nil g2
     exact Ni
   . obtain rfl:(⟨true,false,false,[]⟩:fQ)=fo:=by simpa [bw] using eX
     obtain rfl:=nil g2
     exact Sw
   . obtain rfl:(⟨true,false,false,[]⟩:fQ)=fo:=by simpa [bw] using eX
     obtain rfl:=nil g2
     exact Nj
   . exact Nh (by omega) hp
   . obtain rfl:(⟨false,false,false,[⟨.kind 37,1,900⟩,⟨.term,1,1⟩]⟩:fQ)=fo:=by simpa [bw] using eX
     obtain ⟨ps,B,rfl,hl,_,hB⟩:=CJ (by omega) g2
     exact Wn (by simp at jQ; omega) hl hv hp hB
   . obtain rfl:(⟨false,false,false,[⟨.term,1,1⟩,⟨.kind 37,1,1⟩,⟨.term,1,1⟩]⟩:fQ)=fo:=by simpa [bw] using eX
     obtain ⟨A,B,C,rfl,hA,_,hC⟩:=Kw g2
     exact I8 hv hp hA hC
   . obtain rfl:(⟨true,false,false,[]⟩:fQ)=fo:=by simpa [bw] using eX
     obtain rfl:=nil g2
     exact Nk
theorem HP (hv:Sl v L) (hL:L.length <= 1000) (hz:∀ (i:Nat) (y:Nd),L[i]?=some y->y.size <= 100000):∀ (N:Nat) (s:Tre) (n:Nat),s.flat.length <= N->cQ L n s->s.flat.length <= 900->s.ok=true->s.kind ≠ 1->pD v n s
 | 0,s,n,hN,_,_,_,_=>by have:=s.du; omega
 | N+1,s,n,hN,hs,h9,ho,h1=>by
   have hk:=vZ ho
   have yZ:=jm s
   refine WC hv hL hz hs rfl (Zk hv.s h9 ho h1 ⟨fx _ _,fun i q t hq ht=>?_⟩)
   obtain ⟨u,hu,CD⟩:=lA hs.kids hq
   rw [ht] at hu
   obtain rfl:t=u:=by simpa using hu
   have hm:=fl ht
   have aM:=Tre.zi hm
   obtain ⟨k1,k2⟩:=hk t hm
   obtain ⟨x,hx,nq,_⟩:=CD.lR
   exact ⟨HP hv hL hz N t q (by omega) CD (by omega) k2 k1,x,hx,nq⟩
end
end Go.Rip
