/- Lemmas for the proof: no conditions. -/
import Derived.Test.YtnfpmiiopiinbaaGreatDoorRipZz
import Derived.Test.YtnfpmiiopiinbaaGreatDoorRipYg
set_option linter.unusedVariables false
set_option linter.unusedSimpArgs false
set_option linter.loopingSimpArgs false
namespace Go.Rip
open Go.Proofs Go.RowKit
section
variable {b n:Nat} {U au aR ad:St} {v:AV} {br l rest:List Tx} {L:List Nd} {t:Tre} {x:aG} {nn m a:Int} {pl:List Nat}
theorem rQ {C:cS} {K':AV->St->Prop} {Kp:AV->St->Prop} {mm:Nat} {ks vs ks' vs':List AV} {k:Int} {y:AV} {ty:TypeId} (h:U.mp mm=some (ks,vs)) (hf:ml .i (.int .u8 k) ks 0=some none) (hi:gV (.int .u8 k) y ks vs=(ks',vs')) :
 (dW (some (.i,ty)) (.mp mm) (.int .u8 k) y U).wp C U K' Kp=K' (.aH []) (U.set mm (.mp ks' vs')):=by
 simp only [dW,h,hf,ql,hi]; rfl
theorem Ue (hn:dH nn=true):jG 186 v (.mk 26 x nn m a []) pl:=by
 intro b au U br R z vk dG h hb hk
 have e:(Tre.mk 26 x nn m a []).pr=[iI nn]:=by rw [Tre.cu]; simp [aU]
 rw [e] at hb
 refine qX ?_
 unfold uL
 refine fW h fun b4 aR n4 m4 h1 up=>gO n4 m4 h1 (show _=some (.int .u8 26) from rfl) ?_
 refine pP rfl (gO n4 m4 h1 rfl ?_)
 refine qY hn h1 hb fun bh h2 _=>al.mk (hk _ (up _ _ ?_))
 rw [e]; exact h2
theorem Pa:jG 186 v (.mk 31 x nn m a []) pl:=by
 intro b au U br R z vk dG h hb hk
 have e:(Tre.mk 31 x nn m a []).pr=[jS].map az++[eC x]:=by rw [Tre.cu]; simp [aU]
 rw [e] at hb
 refine qX ?_
 unfold uL
 refine fW h fun b4 aR n4 m4 h1 up=>gO n4 m4 h1 (show _=some (.int .u8 31) from rfl) ?_
 refine fS (by decide) (pP rfl ?_)
 refine cV (dK (by decide) (by decide) h1 hb fun bh h2 b2=>gO n4 m4 h2 rfl ?_)
 refine nH h2 b2 fun bW h3 _=>al.mk (hk _ (up _ _ ?_))
 rw [e]; simpa [Tre.text,Tre.n,Tre.m] using h3
theorem Ud:jG 186 v (.mk 32 x nn m a []) pl:=by
 intro b au U br R z vk dG h hb hk
 have e:(Tre.mk 32 x nn m a []).pr=[lZ].map az++[eC x]:=by rw [Tre.cu]; simp [aU]
 rw [e] at hb
 refine qX ?_
 unfold uL
 refine fW h fun b4 aR n4 m4 h1 up=>gO n4 m4 h1 (show _=some (.int .u8 32) from rfl) ?_
 refine fS (by decide) (fS (by decide) (pP rfl ?_))
 refine cV (dK (by decide) (by decide) h1 hb fun bh h2 b2=>gO n4 m4 h2 rfl ?_)
 refine nH h2 b2 fun bW h3 _=>al.mk (hk _ (up _ _ ?_))
 rw [e]; simpa [Tre.text,Tre.n,Tre.m] using h3
theorem Pb:jG 186 v (.mk 33 x nn m a []) pl:=by
 intro b au U br R z vk dG h hb hk
 have e:(Tre.mk 33 x nn m a []).pr=[eC x]:=by rw [Tre.cu]; simp [aU]
 rw [e] at hb
 refine qX ?_
 unfold uL
 refine fW h fun b4 aR n4 m4 h1 up=>gO n4 m4 h1 (show _=some (.int .u8 33) from rfl) ?_
 refine fS (by decide) (fS (by decide) (fS (by decide) (pP rfl (gO n4 m4 h1 rfl ?_))))
 refine nH h1 hb fun bW h3 _=>al.mk (hk _ (up _ _ ?_))
 rw [e]; exact h3
theorem O9 {ks:List Tre} (CU:ks.length <= 1000) (hp:fG v L pl ks):jG 186 v (.mk 34 x nn m a ks) pl:=by
 intro b au U br R z vk dG h hb hk
 have e:(Tre.mk 34 x nn m a ks).pr=eC x::([cB].map az++(cX cw (ks.map Tre.pr)++([cg].map az++[]))):=by
  rw [Tre.cu]
  simp only [aU,List.map_map]
  simp [Function.comp_def]
 rw [e] at hb
 refine qX ?_
 unfold uL
 refine fW h fun b4 aR n4 m4 h1 up=>gO n4 m4 h1 (show _=some (.int .u8 34) from rfl) ?_
 refine fS (by decide) (fS (by decide) (fS (by decide) (fS (by decide) (pP rfl (gO n4 m4 h1 rfl ?_)))))
 refine nH h1 hb fun bh h2 b2=>?_
 refine cV (dK (by decide) (by decide) h2 b2 fun bW h3 b3=>?_)
 refine AS dG hp CU h3 b3 fun cN h4 qH=>?_
 refine cV (dK (by decide) (by decide) h4 qH fun dv h5 _=>al.mk (hk _ (up _ _ ?_)))
 rw [e]; simpa [Tre.text,Tre.n,Tre.m] using h5
theorem u3 {k:Int} {w:aG} (Ii:(k,w) ∈ [((27:Int),dy),(28,dB),(29,fB),(30,gK)]):jG 186 v (.mk k x nn m a []) pl:=by
 intro b au U br R z vk dG h hb hk
 have e:(Tre.mk k x nn m a []).pr=[w].map az++[]:=by
  rw [Tre.cu]
  simp only [cJ,List.not_mem_nil,or_false,gL] at Ii
  rcases Ii with ⟨rfl,rfl⟩ | ⟨rfl,rfl⟩ | ⟨rfl,rfl⟩ | ⟨rfl,rfl⟩ <;> simp [aU]
 rw [e] at hb
 have hw:w ≠ []:=by
  simp only [cJ,List.not_mem_nil,or_false,gL] at Ii
  rcases Ii with ⟨_,rfl⟩ | ⟨_,rfl⟩ | ⟨_,rfl⟩ | ⟨_,rfl⟩ <;> decide
 have Lq:27 <= k/\k <= 30:=by
  simp only [cJ,List.not_mem_nil,or_false,gL] at Ii
  omega
 refine qX ?_
 unfold uL
 refine fW h fun b4 aR n4 m4 h1 up=>gO n4 m4 h1 (show _=some (.int .u8 k) from rfl) ?_
 refine fS (by omega) (fS (by omega) (fS (by omega) (fS (by omega) (fS (by omega) ?_))))
 rw [kV]
 intro mm sW
 rw [show NV.at mm .mp=AV.mp mm from rfl]
 rw [rQ (ks':=[.int .u8 27]) (vs':=[.str dy]) vr rfl rfl]
 rw [rQ (ks':=[.int .u8 27,.int .u8 28]) (vs':=[.str dy,.str dB]) gR rfl rfl]
 rw [rQ (ks':=[.int .u8 27,.int .u8 28,.int .u8 29]) (vs':=[.str dy,.str dB,.str fB]) gR rfl rfl]
 rw [rQ (ks':=[.int .u8 27,.int .u8 28,.int .u8 29,.int .u8 30]) (vs':=[.str dy,.str dB,.str fB,.str gK]) gR rfl rfl]
 have e1:dm aR (((((aR.new mm (.mp [] [])).set mm (.mp [.int .u8 27] [.str dy])).set mm (.mp [.int .u8 27,.int .u8 28] [.str dy,.str dB])).set mm (.mp [.int .u8 27,.int .u8 28,.int .u8 29] [.str dy,.str dB,.str fB])).set mm (.mp [.int .u8 27,.int .u8 28,.int .u8 29,.int .u8 30] [.str dy,.str dB,.str fB,.str gK])) :=
  ((((bB sW).set sW.1).set sW.1).set sW.1).set sW.1
 have Qn:((((((aR.new mm (.mp [] [])).set mm (.mp [.int .u8 27] [.str dy])).set mm (.mp [.int .u8 27,.int .u8 28] [.str dy,.str dB])).set mm (.mp [.int .u8 27,.int .u8 28,.int .u8 29] [.str dy,.str dB,.str fB])).set mm (.mp [.int .u8 27,.int .u8 28,.int .u8 29,.int .u8 30] [.str dy,.str dB,.str fB,.str gK]))).mp mm=some ([.int .u8 27,.int .u8 28,.int .u8 29,.int .u8 30],[.str dy,.str dB,.str fB,.str gK]):=gR
 have h2:=h1.mono e1
 generalize ((((aR.new mm (.mp [] [])).set mm _).set mm _).set mm _).set mm _=bh at *
 refine gO n4 m4 h2 (show _=some (.int .u8 k) from rfl) ?_
 have PG:eB (some (.i,9)) (some (AV.str [])) (.mp mm) (.int .u8 k) false bh=.val (.str w):=by
  simp only [eB,kH,Qn]
  simp only [cJ,List.not_mem_nil,or_false,gL] at Ii
  rcases Ii with ⟨rfl,rfl⟩ | ⟨rfl,rfl⟩ | ⟨rfl,rfl⟩ | ⟨rfl,rfl⟩ <;> rfl
 rw [PG,aj]
 refine cV (dK (rest:=[]) (fun u hu=>by rw [jX] at hu; subst hu; exact hw) (by simp) h2 hb fun bW h3 _=>al.mk (hk _ (up _ _ ?_)))
 rw [e,gD]; exact h3
theorem MS {A:Tre} (hp:fG v L pl [A]):jG 187 v (.mk 5 x nn m a [A]) pl:=by
 intro b au U br R z vk dG h hb hk
 have e:(Tre.mk 5 x nn m a [A]).pr=eC x::([cW].map az++(A.pr++[])):=by rw [Tre.cu]; simp [aU]
 rw [e] at hb
 obtain ⟨p,rfl,g,_⟩:=hp.one
 refine vF ?_
 unfold Ae
 refine fW h fun b4 aR n4 m4 h1 up=>gO n4 m4 h1 (show _=some (.int .u8 5) from rfl) ?_
 refine pP rfl (gO n4 m4 h1 rfl ?_)
 refine nH h1 hb fun bh h2 b2=>?_
 refine cV (dK (by decide) (by decide) h2 b2 fun bW h3 b3=>?_)
 refine lC (i:=0) dG rfl ?_
 refine sC g h3 b3 fun cN h4 _=>al.mk (hk _ (up _ _ ?_))
 rw [e]; simpa [Tre.text,Tre.n,Tre.m] using h4
theorem Pc:jG 187 v (.mk 37 x nn m a []) pl:=by
 intro b au U br R z vk dG h hb hk
 have e:(Tre.mk 37 x nn m a []).pr=[eC x]:=by rw [Tre.cu]; simp [aU]
 rw [e] at hb
 refine vF ?_
 unfold Ae
 refine fW h fun b4 aR n4 m4 h1 up=>gO n4 m4 h1 (show _=some (.int .u8 37) from rfl) ?_
 refine fS (by decide) (pP rfl (gO n4 m4 h1 rfl ?_))
 refine nH h1 hb fun bW h3 _=>al.mk (hk _ (up _ _ ?_))
 rw [e]; exact h3
theorem Yc {ps:List Tre} {B:Tre} (CU:ps.length <= 900) (tD:1 <= ps.length) (hv:eP v L.length (cF L)) (hp:fG v L pl (ps++[B])) (hB:cj B.kind=true):jG 187 v (.mk 35 x nn m a (ps++[B])) pl:=by
 intro b au U br R z vk dG h hb hk
 have e:(Tre.mk 35 x nn m a (ps++[B])).pr=[qF,cB].map az++(cX cw (ps.map Tre.pr)++(dN [cg] [B]++[])):=by
  rw [Tre.cu]
  have e1:(ps++[B]).map (fun t=>(t.kind,t.pr))=(ps.map fun t=>(t.kind,t.pr))++[(B.kind,B.pr)]:=by simp
  rw [e1]
  generalize hq:ps.map (fun t=>(t.kind,t.pr))=q
  have e3:ps.map Tre.pr=q.map (·.2):=by rw [<- hq,List.map_map]; rfl
  rw [e3]
  simp [aU,dN,nG]
 rw [e] at hb
 have hlen:=hp.len
 rw [cM,List.length_singleton] at hlen
 obtain ⟨Bp,wO⟩:=hp.app
 have Ik:=Bp.len
 have rT:=wO.len
 have cr:pl ≠ []:=fun e=>by rw [e] at hlen; simp at hlen
 refine vF ?_
 unfold Ae
 refine fW h fun b4 aR n4 m4 h1 up=>gO n4 m4 h1 (show _=some (.int .u8 35) from rfl) ?_
 refine fS (by decide) (fS (by decide) (pP rfl ?_))
 rw [dG.len,aj,Hf]
 refine ⟨bK (by omega) (by omega),?_⟩
 have xM:((pl.length:Int) - 1)=((ps.length:Nat):Int):=by omega
 rw [xM]
 refine pw (dK (by decide) (by decide) h1 hb fun bh h2 b2=>?_)
 refine oo (i:=0) (j:=ps.length) dG cr (by omega) (by omega) (ki _ _ _) rfl fun c=>?_
 rw [eD]
 refine AS (.inr ⟨_,rfl⟩) Bp (by omega) h2 b2 fun bW h3 b3=>?_
 refine oo (i:=ps.length) (j:=pl.length) dG cr (by omega) (by omega) rfl (ki _ _ _) fun c=>?_
 rw [tq]
 refine cV (kr hv (.inr ⟨_,rfl⟩) wO (by simp [hB]) rfl (by simp) (by decide) h3 b3 fun vK h8 _=>al.mk (hk _ (up _ _ ?_)))
 rw [e]; simpa using h8
theorem Ki {A B C:Tre} (hv:eP v L.length (cF L)) (hp:fG v L pl [A,B,C]) (hA:cj A.kind=true) (hC:cj C.kind=true):jG 187 v (.mk 36 x nn m a [A,B,C]) pl:=by
 intro b au U br R z vk dG h hb hk
 have e:(Tre.mk 36 x nn m a [A,B,C]).pr=[nf].map az++(dN [vI] [A]++([cn,vJ].map az++(B.pr++(dN [tU] [C]++([qq].map az++[]))))):=by
  rw [Tre.cu]; simp [aU,dN]
 rw [e] at hb
 obtain ⟨p,q,r,rfl,⟨gA,xA,PT,PF⟩,⟨gB,_⟩,gC,xC,hxC,hkC⟩:=hp.three
 have hpA:fG v L [p] [A]:=⟨rfl,fun i n t h1 h2=>by
  match i,h1,h2 with
  | 0,h1,h2=>simp at h1 h2; subst h1 h2; exact ⟨gA,xA,PT,PF⟩⟩
 have hpC:fG v L [r] [C]:=⟨rfl,fun i n t h1 h2=>by
  match i,h1,h2 with
  | 0,h1,h2=>simp at h1 h2; subst h1 h2; exact ⟨gC,xC,hxC,hkC⟩⟩
 refine vF ?_
 unfold Ae
 refine fW h fun b4 aR n4 m4 h1 up=>gO n4 m4 h1 (show _=some (.int .u8 36) from rfl) ?_
 refine fS (by decide) (fS (by decide) (fS (by decide) (pP rfl ?_)))
 refine cV (dK (by decide) (by decide) h1 hb fun bh h2 b2=>?_)
 refine oo (i:=0) (j:=1) dG (by simp) (by omega) (by simp) rfl rfl fun c=>?_
 refine cV (kr (pl:=[p]) hv (.inr ⟨_,rfl⟩) hpA (by simp [hA]) rfl (by simp) (by decide) h2 b2 fun bW h3 b3=>?_)
 refine pw (dK (by decide) (by decide) h3 b3 fun cN h4 qH=>?_)
 refine lC (i:=1) dG rfl ?_
 refine sC gB h4 qH fun dv h5 b5=>?_
 refine oo (i:=2) (j:=3) dG (by simp) (by omega) (by simp) rfl rfl fun c=>?_
 refine cV (kr (pl:=[r]) hv (.inr ⟨_,rfl⟩) hpC (by simp [hC]) rfl (by simp) (by decide) h5 b5 fun nQ h6 b6=>?_)
 refine cV (dK (by decide) (by decide) h6 b6 fun jy h7 _=>al.mk (hk _ (up _ _ ?_)))
 rw [e]; simpa using h7
theorem MQ {ps:List Tre} {B:Tre} (CU:ps.length <= 900) (hp:fG v L pl (ps++[B])):jG 182 v (.mk 8 x nn m a (ps++[B])) pl:=by
 intro b au U br R z vk dG h hb hk
 have e:(Tre.mk 8 x nn m a (ps++[B])).pr=[cB].map az++(cX cw (ps.map Tre.pr)++([cg,fF].map az++(B.pr++[]))):=by
  rw [Tre.cu]
  have e1:(ps++[B]).map (fun t=>(t.kind,t.pr))=(ps.map fun t=>(t.kind,t.pr))++[(B.kind,B.pr)]:=by simp
  rw [e1]
  generalize hq:ps.map (fun t=>(t.kind,t.pr))=q
  have e3:ps.map Tre.pr=q.map (·.2):=by rw [<- hq,List.map_map]; rfl
  rw [e3]
  simp [aU,nG]
 rw [e] at hb
 have hlen:=hp.len
 rw [cM,List.length_singleton] at hlen
 obtain ⟨Bp,wO⟩:=hp.app
 have cr:pl ≠ []:=fun e=>by rw [e] at hlen; simp at hlen
 obtain ⟨p,Fy,gB,_⟩:=wO.one
 have nx:pl[ps.length]?=some p:=by
  have:(pl.drop ps.length)[0]?=some p:=by rw [Fy]; rfl
  simpa using this
 refine Gn ?_
 unfold JB
 refine fW h fun b4 aR n4 m4 h1 up=>gO n4 m4 h1 (show _=some (.int .u8 8) from rfl) ?_
 refine pP rfl ?_
 rw [dG.len,aj,Hf]
 refine ⟨bK (by omega) (by omega),?_⟩
 have xM:((pl.length:Int) - 1)=((ps.length:Nat):Int):=by omega
 rw [xM]
 refine cV (dK (by decide) (by decide) h1 hb fun bh h2 b2=>?_)
 refine oo (i:=0) (j:=ps.length) dG cr (by omega) (by omega) (ki _ _ _) rfl fun c=>?_
 rw [eD]
 refine AS (.inr ⟨_,rfl⟩) Bp (by omega) h2 b2 fun bW h3 b3=>?_
 refine pw (dK (by decide) (by decide) h3 b3 fun cN h4 qH=>?_)
 refine lC dG nx ?_
 refine sC gB h4 qH fun dv h5 b5=>al.mk (hk _ (up _ _ ?_))
 rw [e]; simpa using h5
theorem O8 {k:Int} (abp:k=6\/k=7) (hn:dH nn=true):jG 182 v (.mk k x nn m a []) pl:=by
 intro b au U br R z vk dG h hb hk
 refine Gn ?_
 unfold JB
 refine fW h fun b4 aR n4 m4 h1 up=>gO n4 m4 h1 (show _=some (.int .u8 k) from rfl) ?_
 refine fS (by omega) (gO n4 m4 h1 (show _=some (.int .u8 k) from rfl) ?_)
 have big:(∀ y,(Tre.mk k x nn m a []).pr=y->y=[(if k=6 then gy else jR)].map az++[iI nn])->(aC.vu).wp K aR (fun v8 U =>
  (dW (some (.i,9)) v8 (AV.int .u8 6) (AV.str gy) U).wp K U (fun _ U =>
  (dW (some (.i,9)) v8 (AV.int .u8 7) (AV.str jR) U).wp K U (fun _ U =>
  (af (some 0) (.box b4 0)).wp K U (fun v10 U =>
  (ak (some (false,1)) v10 U).wp K U (fun v11 U =>
  (eB (some (.i,9)) (some (AV.str [])) v8 v11 false U).wp K U (fun v12 U =>
  (ar (some (9,1)) (some [AV.str []]) 1 false [(0,v12)]).wp K U (fun cz U =>
  ae K 231 [.box b 0,cz] U (ag (fun cG U =>
  (af (some 2) (.box b4 0)).wp K U (fun cU U =>
  (ak (some (false,1)) cU U).wp K U (fun dM U =>
  ae K 234 [.box b 0,dM] U (ag (fun cA U =>
  al R (AV.aH []) U) (aa R))) (aa R)) (aa R)) (aa R))) (aa R)) (aa R)) (aa R)) (aa R)) (aa R)) (aa R)) (aa R):=by
  intro he
  have e:=he _ rfl
  have hw:(if k=6 then gy else jR) ≠ []:=by split <;> decide
  rw [e] at hb
  rw [kV]
  intro mm sW
  rw [show NV.at mm .mp=AV.mp mm from rfl]
  rw [rQ (ks':=[.int .u8 6]) (vs':=[.str gy]) vr rfl rfl]
  rw [rQ (ks':=[.int .u8 6,.int .u8 7]) (vs':=[.str gy,.str jR]) gR rfl rfl]
  have e1:dm aR (((aR.new mm (.mp [] [])).set mm (.mp [.int .u8 6] [.str gy])).set mm (.mp [.int .u8 6,.int .u8 7] [.str gy,.str jR])):=((bB sW).set sW.1).set sW.1
  have Qn:(((aR.new mm (.mp [] [])).set mm (.mp [.int .u8 6] [.str gy])).set mm (.mp [.int .u8 6,.int .u8 7] [.str gy,.str jR])).mp mm=some ([.int .u8 6,.int .u8 7],[.str gy,.str jR]):=gR
  have h2:=h1.mono e1
  generalize ((aR.new mm (.mp [] [])).set mm _).set mm _=bh at *
  refine gO n4 m4 h2 (show _=some (.int .u8 k) from rfl) ?_
  have PG:eB (some (.i,9)) (some (AV.str [])) (.mp mm) (.int .u8 k) false bh=.val (.str (if k=6 then gy else jR)):=by
   simp only [eB,kH,Qn]
   rcases abp with rfl | rfl <;> rfl
  rw [PG,aj]
  refine cV (dK (fun u hu=>by rw [jX] at hu; subst hu; exact hw) (by simp) h2 hb fun bW h3 b3=>gO n4 m4 h3 rfl ?_)
  refine qY hn h3 b3 fun cN h4 _=>al.mk (hk _ (up _ _ ?_))
  rw [e]; simpa [Tre.text,Tre.n,Tre.m] using h4
 have word:∀ w:aG,w ≠ []->(Tre.mk k x nn m a []).pr=[w].map az++[]->(ar (some (9,1)) (some [AV.str []]) 1 false [(0,(AV.str w))]).wp K aR (fun v53 U=>ae K 231 [.box b 0,v53] U (ag (fun nO U=>al R (AV.aH []) U) (aa R))) (aa R):=by
  intro w hw e
  rw [e] at hb
  refine cV (dK (rest:=[]) (fun u hu=>by rw [jX] at hu; subst hu; exact hw) (by simp) h1 hb fun bW h3 _=>al.mk (hk _ (up _ _ ?_)))
  rw [e,gD]; exact h3
 rw [bu,aj]
 rcases abp with rfl | rfl
 . simp only [dZ,bj,iJ,aP,cI]
   refine kN (fO (h1.fr.bg n4 m4) rfl ?_)
   rw [bu,aJ]
   simp only [aM,if_true,aj]
   refine iv (fun uk=>?_) fun uk=>?_
   . have uk:nn=1:=uk
     exact word pb (by decide) (by rw [Tre.cu]; simp [aU,uk])
   . have uk:¬ nn=1:=uk
     refine gO n4 m4 h1 (show _=some (.int .u8 6) from rfl) ?_
     rw [bu,aj]
     simp only [dZ,bj,iJ,aP,cI]
     refine kN (fO (h1.fr.bg n4 m4) rfl ?_)
     rw [bu,aJ]
     simp only [aM,if_true,aj]
     refine iv (fun u7=>?_) fun u7=>?_
     . have u7:nn=2:=u7
       exact word kT (by decide) (by rw [Tre.cu]; simp [aU,u7])
     . have u7:¬ nn=2:=u7
       exact big fun y hy=>by rw [<- hy,Tre.cu]; simp [aU,uk,u7]
 . simp only [show decide ((7:Int)=6)=false from rfl,bj,show (false == true)=false from rfl,aP,cC,aM,bQ,if_false,aj]
   refine eF (gO n4 m4 h1 (show _=some (.int .u8 7) from rfl) ?_)
   rw [bu,aj]
   simp only [show decide ((7:Int)=6)=false from rfl,bj,show (false == true)=false from rfl,aP,cC,aM,bQ,if_false,aj]
   refine eF (big fun y hy=>by rw [<- hy,Tre.cu]; simp [aU])
end
end Go.Rip
namespace Go.Rip
open Go.Proofs Go.RowKit
section
variable {b n:Nat} {U au aR ad:St} {v:AV} {br l rest:List Tx} {L:List Nd} {t:Tre} {x:aG} {nn m a:Int} {pl:List Nat}
def By (k:Int):aG:=if k=2 then dI else if k=3 then fH else dz
theorem Fi {R:cY->St->Prop} {k z:Int} {ks:List Tre} {vk:AV} {rest:List Tx} (Fu:k=2\/k=3\/k=4) (h:PS b v au br U) (hb:(br++([By k].map az++(eC x::rest))).length <= NT) (hk:∀ l ad,PS b v au (br++l) ad->(Tre.mk k x nn m a ks).pr=l->R (.ret (.aH [])) ad)
 (key:∀ b4 aR bh,b4 ≠ b->aR.box b4=some (zb (.mk k x nn m a ks) z)->PS b v aR (br++[By k].map az++[eC x]) bh->(br++[By k].map az++[eC x]++rest).length <= NT->(∀ l ad,PS b v aR l ad->PS b v au l ad) ->
   (jL 1 (fun v0 U =>
     (ar (some (9,1)) (some [AV.str []]) 1 false [(0,(AV.str cn))]).wp K U (fun nX U =>
     ae K 231 [v0,nX] U (ag (fun uS U =>
     al R (AV.aH []) U) (aa R))) (aa R)) fun j =>
   (af (some 0) (.box b4 0)).wp K bh (fun de U =>
   (ak (some (false,1)) de U).wp K U (fun v20 U =>
   (aw .eql (BT.mk false false false none false) true v20 (AV.int .u8 2)).wp K U (fun v21 U =>
   av v21 (
    (ar (some (9,1)) (some [AV.str []]) 1 false [(0,(AV.str cW))]).wp K U (fun eL U =>
    ae K 231 [.box b 0,eL] U (ag (fun v24 U =>
    (aO (some (3,1)) none vk (AV.int .i64 0)).wp K U (fun ef U =>
    (ak (some (false,1)) ef U).wp K U (fun v28 U =>
    ae K 123 [.box b 0,v28] U (ag (fun ep U =>
    j (.box b 0) U) (aa R))) (aa R)) (aa R)) (aa R))) (aa R)) (
    (cE (some false) vk).wp K U (fun v31 U =>
    (aw .sub (BT.mk false false false none false) true v31 (AV.int .i64 2)).wp K U (fun fK U =>
    (ar (some (9,1)) (some [AV.str []]) 1 false [(0,(AV.str cB))]).wp K U (fun iK U =>
    ae K 231 [.box b 0,iK] U (ag (fun hY U =>
    (fI false (some (3,1)) vk none (some fK)).wp K U (fun l8 U =>
    ae K 233 [.box b 0,l8] U (ag (fun v40 U =>
    (ar (some (9,1)) (some [AV.str []]) 2 false [(0,(AV.str cg)),(1,(AV.str cW))]).wp K U (fun lz U =>
    ae K 231 [.box b 0,lz] U (ag (fun jF U =>
    (aO (some (3,1)) none vk fK).wp K U (fun nM U =>
    (ak (some (false,1)) nM U).wp K U (fun rX U =>
    ae K 123 [.box b 0,rX] U (ag (fun v49 U =>
    (ar (some (9,1)) (some [AV.str []]) 1 false [(0,(AV.str gk))]).wp K U (fun v51 U =>
    ae K 231 [.box b 0,v51] U (ag (fun nN U =>
    (aw .add (BT.mk false false false none false) true fK (AV.int .i64 1)).wp K U (fun mE U =>
    (aO (some (3,1)) none vk mE).wp K U (fun q9 U =>
    (ak (some (false,1)) q9 U).wp K U (fun pa U =>
    ae K 123 [.box b 0,pa] U (ag (fun v59 U =>
    j (.box b 0) U) (aa R))) (aa R)) (aa R)) (aa R)) (aa R))) (aa R)) (aa R))) (aa R)) (aa R)) (aa R))) (aa R)) (aa R))) (aa R)) (aa R))) (aa R)) (aa R)) (aa R))) (aa R)) (aa R)) (aa R))):ae K 180 [.box b 0,.agg (zb (.mk k x nn m a ks) z),vk] U R:=by
 have hw:By k ≠ []:=by unfold By; split; decide; split <;> decide
 refine Sg ?_
 unfold Sf
 refine fW h fun b4 aR n4 m4 h1 up=>?_
 rw [kV]
 intro mm sW
 rw [show NV.at mm .mp=AV.mp mm from rfl]
 rw [rQ (ks':=[.int .u8 2]) (vs':=[.str dI]) vr rfl rfl]
 rw [rQ (ks':=[.int .u8 2,.int .u8 3]) (vs':=[.str dI,.str fH]) gR rfl rfl]
 rw [rQ (ks':=[.int .u8 2,.int .u8 3,.int .u8 4]) (vs':=[.str dI,.str fH,.str dz]) gR rfl rfl]
 have e1:dm aR ((((aR.new mm (.mp [] [])).set mm (.mp [.int .u8 2] [.str dI])).set mm (.mp [.int .u8 2,.int .u8 3] [.str dI,.str fH])).set mm (.mp [.int .u8 2,.int .u8 3,.int .u8 4] [.str dI,.str fH,.str dz])) :=
  (((bB sW).set sW.1).set sW.1).set sW.1
 have Qn:((((aR.new mm (.mp [] [])).set mm (.mp [.int .u8 2] [.str dI])).set mm (.mp [.int .u8 2,.int .u8 3] [.str dI,.str fH])).set mm (.mp [.int .u8 2,.int .u8 3,.int .u8 4] [.str dI,.str fH,.str dz])).mp mm=some ([.int .u8 2,.int .u8 3,.int .u8 4],[.str dI,.str fH,.str dz]):=gR
 have h2:=h1.mono e1
 generalize (((aR.new mm (.mp [] [])).set mm _).set mm _).set mm _=bh at *
 refine gO n4 m4 h2 (show _=some (.int .u8 k) from rfl) ?_
 have PG:eB (some (.i,9)) (some (AV.str [])) (.mp mm) (.int .u8 k) false bh=.val (.str (By k)):=by
  simp only [eB,kH,Qn]
  rcases Fu with rfl | rfl | rfl <;> rfl
 rw [PG,aj]
 refine cV (dK (fun u hu=>by rw [jX] at hu; subst hu; exact hw) (by simp) h2 hb fun bW h3 b3=>gO n4 m4 h3 rfl ?_)
 refine nH h3 b3 fun cN h4 qH=>?_
 exact key b4 aR cN n4 m4 h4 qH up
theorem Kg {A:Tre} (hp:fG v L pl [A]):jG 180 v (.mk 2 x nn m a [A]) pl:=by
 intro b au U br R z vk dG h hb hk
 have e:(Tre.mk 2 x nn m a [A]).pr=[By 2].map az++(eC x::([cW].map az++(A.pr++([cn].map az++[])))):=by rw [Tre.cu]; simp [aU,By]
 rw [e] at hb
 obtain ⟨p,rfl,g,_⟩:=hp.one
 refine Fi (k:=2) (.inl rfl) h hb (fun l ad h' e'=>hk ad (by rw [e']; exact h')) fun b4 aR bh n4 m4 h2 b2 up=>?_
 intro j hj
 refine gO n4 m4 h2 (show _=some (.int .u8 2) from rfl) (pP rfl ?_)
 refine cV (dK (by decide) (by decide) h2 b2 fun bW h3 b3=>?_)
 refine lC (i:=0) dG rfl ?_
 refine sC g h3 b3 fun cN h4 qH=>hj _ _ ?_
 refine cV (dK (by decide) (by decide) h4 qH fun dv h5 _=>al.mk (hk _ (up _ _ ?_)))
 rw [e]; simpa using h5
theorem T4 {k:Int} {ps:List Tre} {B C:Tre} (afp:k=3\/k=4) (CU:ps.length <= 900) (hp:fG v L pl (ps++[B,C])):jG 180 v (.mk k x nn m a (ps++[B,C])) pl:=by
 intro b au U br R z vk dG h hb hk
 have e:(Tre.mk k x nn m a (ps++[B,C])).pr=[By k].map az++(eC x::([cB].map az++(cX cw (ps.map Tre.pr)++([cg,cW].map az++(B.pr++([gk].map az++(C.pr++([cn].map az++[])))))))):=by
  rw [Tre.cu]
  have e1:(ps++[B,C]).map (fun t=>(t.kind,t.pr))=(ps.map fun t=>(t.kind,t.pr))++[(B.kind,B.pr),(C.kind,C.pr)]:=by simp
  rw [e1]
  generalize hq:ps.map (fun t=>(t.kind,t.pr))=q
  have e3:ps.map Tre.pr=q.map (·.2):=by rw [<- hq,List.map_map]; rfl
  rw [e3]
  have el:(q++[(B.kind,B.pr),(C.kind,C.pr)]).length - 2=q.length:=by simp
  have O5:(q++[(B.kind,B.pr),(C.kind,C.pr)]).length - 1=q.length+1:=by simp
  rcases afp with rfl | rfl <;> simp [aU,By,el,O5,nG]
 rw [e] at hb
 have hlen:=hp.len
 rw [cM,fm,List.length_singleton] at hlen
 obtain ⟨Bp,wO⟩:=hp.app
 obtain ⟨p,q,Fy,⟨gB,_⟩,gC,_⟩:=wO.two
 have cr:pl ≠ []:=fun e=>by rw [e] at hlen; simp at hlen
 have hpB:pl[ps.length]?=some p:=by
  have:(pl.drop ps.length)[0]?=some p:=by rw [Fy]; rfl
  simpa using this
 have hpC:pl[ps.length+1]?=some q:=by
  have:(pl.drop ps.length)[1]?=some q:=by rw [Fy]; rfl
  simpa using this
 refine Fi (k:=k) (by omega) h hb (fun l ad h' e'=>hk ad (by rw [e']; exact h')) fun b4 aR bh n4 m4 h2 b2 up=>?_
 intro j hj
 refine gO n4 m4 h2 (show _=some (.int .u8 k) from rfl) (fS (by omega) ?_)
 rw [dG.len,aj,Hf]
 refine ⟨bK (by omega) (by omega),?_⟩
 have xM:((pl.length:Int) - 2)=((ps.length:Nat):Int):=by omega
 rw [xM]
 refine cV (dK (by decide) (by decide) h2 b2 fun bW h3 b3=>?_)
 refine oo (i:=0) (j:=ps.length) dG cr (by omega) (by omega) (ki _ _ _) rfl fun c=>?_
 rw [eD]
 refine AS (.inr ⟨_,rfl⟩) Bp (by omega) h3 b3 fun cN h4 qH=>?_
 refine pw (dK (by decide) (by decide) h4 qH fun dv h5 b5=>?_)
 refine lC dG hpB ?_
 refine sC gB h5 b5 fun nQ h6 b6=>?_
 refine cV (dK (by decide) (by decide) h6 b6 fun jy h7 b7=>?_)
 rw [dO]
 refine ⟨bK (by omega) (by omega),?_⟩
 have wI:((ps.length:Nat):Int)+1=((ps.length+1:Nat):Int):=by omega
 rw [wI]
 refine lC dG hpC ?_
 refine sC gC h7 b7 fun vK h8 b8=>hj _ _ ?_
 refine cV (dK (by decide) (by decide) h8 b8 fun te h9 _=>al.mk (hk _ (up _ _ ?_)))
 rw [e]; simpa using h9
theorem T9 {A:Tre} (hv:eP v L.length (cF L)) (hp:fG v L pl [A]) (hA:cj A.kind=true):jG 183 v (.mk 19 x nn m a [A]) pl:=by
 intro b au U br R z vk dG h hb hk
 have e:(Tre.mk 19 x nn m a [A]).pr=[pK].map az++(dL A.kind 4 A.pr++[]):=by rw [Tre.cu]; simp [aU]
 rw [e] at hb
 obtain ⟨p,rfl,g,xA,PT,PF⟩:=hp.one
 refine Gp ?_
 unfold JC
 refine fW h fun b4 aR n4 m4 h1 up=>gO n4 m4 h1 (show _=some (.int .u8 19) from rfl) (pP rfl ?_)
 refine cV (dK (by decide) (by decide) h1 hb fun bh h2 b2=>?_)
 refine lC (i:=0) dG rfl ?_
 refine xh (least:=4) hv PT PF hA g h2 b2 fun bW h3 _=>al.mk (hk _ (up _ _ ?_))
 rw [e]; simpa using h3
def qn (lev:Nat):List (List UInt8 × Int):=match opsL.find? fun p=>p.1 == (lev:Int) with | some p=>p.2 | none=>[]
theorem QE {k:Int} (hk:k ∈ nU):(∀ q ∈ qn (bJ k),q.2=k->q=(jP k,k))/\(jP k,k) ∈ qn (bJ k)/\(qn (bJ k)).Nodup:=by
 simp only [nU,cJ,List.not_mem_nil,or_false] at hk
 rcases hk with rfl | rfl | rfl | rfl | rfl | rfl | rfl | rfl <;> decide
theorem UY {k:Int} (hk:k ∈ nU) (U:St):eB (some (.i,185)) (some AV.jO) opsV (.int .i64 (bJ k:Nat)) false U=.val (.ga ((qn (bJ k)).map fun p=>(jE p).1) ((qn (bJ k)).map fun p=>(jE p).2)):=by
 simp only [nU,cJ,List.not_mem_nil,or_false] at hk
 rcases hk with rfl | rfl | rfl | rfl | rfl | rfl | rfl | rfl <;> rfl
theorem Fr.iter {o:Nat} {y:List (AV × AV) × Option (AV × AV)} (h:Fr b U ad) (n:o ≠ b) (k:U.iter o=some y):ad.iter o=some y:=by
 cases e:U.live o with
 | none=>simp [St.iter,e] at k
 | some x =>
   have:ad.live o=U.live o:=(h o x n e (by intro t ht; subst ht; simp [St.iter,e] at k)).trans e.symm
   unfold St.iter at k ⊢
   rw [this]; exact k
theorem A7 {o c:Nat} {y:List AV} {z:List (AV × AV) × Option (AV × AV)} (h:U.box c=some y) (k:U.iter o=some z):c ≠ o:=by
 rintro rfl
 unfold St.box at h; unfold St.iter at k
 split at h
 . rename_i e; simp [e] at k
 . rename_i e; simp [e] at k
 . cases h
theorem KS {o c:Nat} {y:Tok} {z:List (AV × AV) × Option (AV × AV)} (h:U.tok c=some y) (k:U.iter o=some z):c ≠ o:=by
 rintro rfl
 unfold St.tok at h; unfold St.iter at k
 split at h
 . rename_i e; simp [e] at k
 . cases h
theorem PS.Yq {o:Nat} {z:List (AV × AV) × Option (AV × AV)} {x:Live} (h:PS b v au br U) (hn:au.live o=none) (ho:U.iter o=some z):PS b v au br (U.set o x):=by
 obtain ⟨⟨vl,h1,h2⟩,h3⟩:=h
 refine ⟨⟨vl,by rw [aY (A7 h1 ho)]; exact h1,?_⟩,fun c y hc hy ht=>?_⟩
 . refine ⟨?_,h2.z,h2.t,xG _⟩
   rcases h2.g with g | ⟨τ,r1,r2,r3⟩
   . exact .inl g
   . exact .inr ⟨τ,r1,by rw [gY (KS r2 ho)]; exact r2,r3⟩
 . rw [dQ,if_neg (fun e=>by subst e; rw [hn] at hy; cases hy)]
   exact h3 c y hc hy ht
theorem Lb {k:Int} {A:Tre} {rs:List Tre} (o0:k ∈ nU) (hrs:(k=25/\rs=[]/\dH nn=true)\/(k ≠ 25/\∃ B,rs=[B]/\cj B.kind=true)) (hv:eP v L.length (cF L)) (hp:fG v L pl (A::rs)) (hA:cj A.kind=true):jG 183 v (.mk k x nn m a (A::rs)) pl:=by
 intro b au U br R z vk dG h hb hk
 obtain ⟨q1,q2,q3⟩:=QE o0
 have afr:2 <= bJ k/\bJ k <= 8:=by
  simp only [nU,cJ,List.not_mem_nil,or_false] at o0
  rcases o0 with rfl | rfl | rfl | rfl | rfl | rfl | rfl | rfl <;> decide
 have hk8:bJ k=8 ↔ k=25:=by
  simp only [nU,cJ,List.not_mem_nil,or_false] at o0
  rcases o0 with rfl | rfl | rfl | rfl | rfl | rfl | rfl | rfl <;> decide
 have hkT:cj k=true:=by
  simp only [nU,cJ,List.not_mem_nil,or_false] at o0
  rcases o0 with rfl | rfl | rfl | rfl | rfl | rfl | rfl | rfl <;> decide
 have afo:k ≠ 19:=by
  simp only [nU,cJ,List.not_mem_nil,or_false] at o0
  omega
 have cr:jP k ≠ []:=by
  simp only [nU,cJ,List.not_mem_nil,or_false] at o0
  rcases o0 with rfl | rfl | rfl | rfl | rfl | rfl | rfl | rfl <;> decide
 obtain ⟨tl,sX⟩:∃ tl,tl=if k=25 then [iI nn] else match rs with | [B]=>dL B.kind (bJ k+1) B.pr | _=>[]:=⟨_,rfl⟩
 have e:(Tre.mk k x nn m a (A::rs)).pr=dL A.kind (if bJ k=5 then 6 else bJ k) A.pr++([jP k].map az++tl):=by
  rw [Tre.cu,sX]
  simp only [nU,cJ,List.not_mem_nil,or_false] at o0
  rcases hrs with ⟨rfl,rfl,_⟩ | ⟨Nk,B,rfl,_⟩
  . simp [aU,bJ,jP]
  . rcases o0 with rfl | rfl | rfl | rfl | rfl | rfl | rfl | rfl
    all_goals first
     | exact absurd rfl Nk
     | simp [aU,bJ]
 rw [e] at hb
 obtain ⟨p0,pr,rfl⟩:∃ p r,pl=p::r:=by
  have:=hp.len
  cases pl with
  | nil=>simp at this
  | cons p r=>exact ⟨p,r,rfl⟩
 obtain ⟨gA,xA,PT,PF⟩:=hp.nd 0 p0 A rfl rfl
 refine Gp ?_
 unfold JC
 refine fW h fun b4 aR n4 m4 h1 up=>gO n4 m4 h1 (show _=some (.int .u8 k) from rfl) (fS afo ?_)
 refine gO n4 m4 h1 (show _=some (.int .u8 k) from rfl) ?_
 obtain ⟨vl,iH⟩:=h1.ld
 refine zG (l:=[]) iH ?_
 rw [bE,FX hkT]
 intro j hj
 have body:j (.box b 0) vk (.box b4 0) (.int .i64 (bJ k:Nat)) (.int .i64 ((if bJ k=5 then 6 else bJ k:Nat):Int)) aR:=by
  refine hj _ _ _ _ _ _ ?_
  refine lC (i:=0) dG rfl ?_
  refine xh hv PT PF hA gA h1 hb fun bh h2 b2=>?_
  obtain ⟨vl2,afI⟩:=h2.ld
  have m4:=h2.fr.bg n4 m4
  have up:∀ l ad,PS b v bh l ad->PS b v au l ad:=fun l ad h'=>up l ad (h2.app h')
  have h2:=h2.DE
  simp only [bN,aj]
  refine iz (eO afI rfl ?_)
  rw [UY o0,aj]
  have UE:∀ (l:List (List UInt8 × Int)) fk,uJ (some fk) (.ga (l.map fun p=>(jE p).1) (l.map fun p=>(jE p).2))=.new .it none (.iter (l.map jE) none):=fun l fk=>by rw [<- zip_map]; rfl
  rw [UE,kV]
  intro o ho
  rw [show NV.at o .it=AV.it o from rfl]
  have h3:=h2.mono (bB ho (x:=.iter ((qn (bJ k)).map jE) none))
  have it3:(bh.new o (.iter ((qn (bJ k)).map jE) none)).iter o=some ((qn (bJ k)).map jE,none):=by simp
  have fo:bh.live o=none:=ho.1
  generalize pN:br++dL A.kind (if bJ k=5 then 6 else bJ k) A.pr=tk at *
  refine ⟨fun mm w0 w2 w4 w6 w42 ad=>∃ (l2 kB:List (List UInt8 × Int)) (c2:Option (AV × AV)),w0=.box b 0/\w2=vk/\w4=.box b4 0/\w6=.int .i64 (bJ k:Nat)/\w42=.it o/\ad.iter o=some (l2.map jE,c2)/\mm=l2.length/\(kB++l2).Perm (qn (bJ k))/\PS b v bh (tk++if (jP k,k) ∈ kB then [az (jP k)] else []) ad,
   ⟨_,qn (bJ k),[],none,rfl,rfl,rfl,rfl,rfl,it3,rfl,by simp,by simpa using h3⟩,?_⟩
  rintro mm w0 w2 w4 w6 w42 bW ⟨l2,kB,c2,rfl,rfl,rfl,rfl,rfl,hit,rfl,Iy,h4⟩
  refine EA hit (fun hl=>?_) (fun p l3 nx=>?_)
  . subst hl
    rw [gD] at Iy
    rw [if_pos (Iy.mem_iff.2 q2)] at h4
    have qH:(tk++[az (jP k)]++tl).length <= NT:=by simpa using b2
    simp only [bD,eD,dF,aj,bp]
    rcases hrs with ⟨um,_,hnn⟩ | ⟨Nk,B,hB,hBT⟩
    . have h8:=hk8.2 um
      refine pP (by omega) (gO n4 m4 h4 (show _=some (.int .i64 nn) from rfl) ?_)
      rw [if_pos um] at sX
      rw [sX] at qH
      refine qY hnn h4 qH fun dv h5 _=>al.mk (hk _ (up _ _ ?_))
      rw [e,sX,<- gi,pN,<- gi]; exact h5
    . have h8:bJ k ≠ 8:=fun e=>Nk (hk8.1 e)
      subst hB
      rw [if_neg Nk] at sX
      simp only at sX
      refine fS (by omega) ?_
      obtain ⟨q0,hq0,gB,xB,hxB,hkB⟩:∃ q0,(p0::pr)[1]?=some q0/\qv v q0 B/\∃ x,L[q0]?=some x/\x.kind=B.kind:=by
       have:=hp.len
       match pr,this with
       | [q0],_=>exact ⟨q0,rfl,hp.nd 1 q0 B rfl rfl⟩
      refine lC (i:=1) dG hq0 ?_
      rw [dO]
      refine ⟨bK (by omega) (by omega),?_⟩
      have wI:((bJ k:Nat):Int)+1=((bJ k+1:Nat):Int):=by omega
      rw [wI]
      rw [sX] at qH
      refine xh (rest:=[]) hv hxB hkB hBT gB h4 (by simpa using qH) fun dv h5 _=>al.mk (hk _ (up _ _ ?_))
      rw [e,sX,<- gi,pN,<- gi]; exact h5
  . have he:nu (.it o) (bW.set o (.iter (l3.map jE) (some (jE p))))=.val (.aH [(jE p).1,(jE p).2]):=by simp [nu]
    have h5:=h4.Yq (x:=.iter (l3.map jE) (some (jE p))) fo hit
    have it5:(bW.set o (.iter (l3.map jE) (some (jE p)))).iter o=some (l3.map jE,some (jE p)):=by simp
    have afw:o ≠ b:=fun e=>by
     subst e
     obtain ⟨uU,afH⟩:=h4.ld
     exact A7 afH hit rfl
    have GY:(kB++[p]++l3).Perm (qn (bJ k)):=by
     rw [gi]
     exact (List.Perm.append_left kB nx).trans Iy
    have hlen:l3.length < l2.length:=by rw [<- nx.length_eq]; simp
    have hnd:(kB++[p]++l3).Nodup:=GY.nodup_iff.2 q3
    have afz:p ∈ qn (bJ k):=GY.mem_iff.1 (by simp)
    simp only [bD,eD,dF,aj,bG]
    rw [he]
    simp only [bD,eD,dF,aj,List.drop_succ_cons]
    refine gO n4 m4 h5 (show _=some (.int .u8 k) from rfl) ?_
    rw [show (jE p).2=.int .u8 p.2 from rfl,show (jE p).1=.str p.1 from rfl,bu,aj]
    refine iv (fun hpk=>?_) fun hpk=>?_
    . have Fy:=q1 p afz hpk
      have Iu:(jP k,k) ∉ kB:=fun hm=>by
       rw [<- Fy] at hm
       rw [List.nodup_append,List.nodup_append] at hnd
       exact hnd.1.2.2 p hm p (by simp) rfl
      rw [if_neg Iu,gD] at h5
      have Bp:p.1=jP k:=by rw [Fy]
      rw [Bp]
      refine cV (dK (ws:=[jP k]) (rest:=tl) (fun u hu=>by rw [jX] at hu; subst hu; exact cr) (by simp) h5.DE (by simpa using b2) fun nQ h6 _=>?_)
      refine ⟨l3.length,hlen,l3,kB++[p],some (jE p),rfl,rfl,rfl,rfl,rfl,h6.fr.iter afw it5,rfl,GY,?_⟩
      rw [if_pos (by rw [<- Fy]; simp)]
      exact h5.app h6
    . refine ⟨l3.length,hlen,l3,kB++[p],some (jE p),rfl,rfl,rfl,rfl,rfl,it5,rfl,GY,?_⟩
      have:((jP k,k) ∈ kB++[p]) ↔ (jP k,k) ∈ kB:=by
       simp only [gu,jX]
       exact ⟨fun h=>h.resolve_right fun e=>hpk (by rw [<- e]),.inl⟩
      have e3:(if (jP k,k) ∈ kB++[p] then [az (jP k)] else [])=if (jP k,k) ∈ kB then [az (jP k)] else []:=by
       by_cases hm:(jP k,k) ∈ kB
       . rw [if_pos hm,if_pos (this.2 hm)]
       . rw [if_neg hm,if_neg fun h=>hm (this.1 h)]
      rw [e3]
      exact h5
 refine He (iv (fun h5=>?_) fun h5=>?_)
 . have h5':bJ k=5:=by omega
   rw [dO]
   refine ⟨bK (by omega) (by omega),?_⟩
   rw [if_pos h5'] at body
   have:((bJ k:Nat):Int)+1=((6:Nat):Int):=by omega
   rw [this]; exact body
 . have h5':¬ bJ k=5:=by omega
   rw [if_neg h5'] at body
   exact body
end
end Go.Rip
namespace Go.Rip
open Go.Proofs Go.RowKit
theorem BF {v:AV} {l:List Nd} {n:Nat} {en:Int} {bn be bt:Nat} {U:St} {B:AV->Qr->St->Prop} {Kn:St->Prop} {Ke:Nat->St->Prop} {Kr:St->Prop} {Kp:AV->St->Prop} (I:Nat->List Nat->St->Prop) (J:Nat->St->Prop)
 (hv:eP v l.length (cF l)) (hn:n < l.length) (hlen:l.length <= 100000) (hen:en <= l.length)
 (B5:∀ o ks U,I o ks U->U.box bn=some [.int .i64 (n:Nat)]/\U.box be=some [.int .i64 en]/\U.box bt=some [v])
 (C3:∀ o ks U L L',I o ks U->U.loop o=some L->I o ks (U.set o (.loop L')))
 (hJ:∀ o U L L',J o U->U.loop o=some L->J o (U.set o (.loop L')))
 (body:∀ (ks:List Nat) (jD:Nat) (x:Nd) (aR:St) (o:Nat) (L1:fL) (q:Qr),I o ks aR->l[jD]?=some x->(jD:Int) < en->0 < x.size->n < jD->ks.length < l.length->(∃ r,fl l en l.length (n+1)=ks++jD::r)->aR.loop o=some L1 ->
   (∀ bh,I o (ks++[jD]) bh->x.size <= 100000->bh.loop o=some L1->q.n bh)->(∀ bh,J o bh->bh.loop o=some L1->q.r bh)->B (.int .i64 (jD:Nat)) q aR)
 (fin:∀ ks aR o L,ks=fl l en l.length (n+1)->I o ks aR->aR.loop o=some L->Kn (aR.del o))
 (Uf:∀ aR o L,J o aR->aR.loop o=some L->Kr (aR.del o))
 (h0:∀ o L,U.dA o->I o [] (U.new o (.loop L))):rF K 1 (.func (.func 155) [] [.box bn 0,.box be 0,.box bt 0]) U (fun v q U=>q.Dm (fun U=>B v q U) U) Kn Ke Kr Kp:=by
 refine ⟨by kernel_rfl,fun o L ho H4 Ps Y=>?_⟩
 have I1:=h0 o L ho
 have L8:=vX (U:=U) (b:=o) (L:=L)
 generalize U.new o (.loop L)=aR at *
 refine Gm ?_
 unfold JA
 rw [gM (B5 _ _ _ I1).1,eD,bC,dO]
 refine ⟨bK (by omega) (by omega),?_⟩
 refine ⟨fun m v0 v2 v3 v5 ad=>∃ ks f p,m=l.length - p/\v0=.rZ o/\v2=.box be 0/\v3=.box bt 0/\v5=.int .i64 (p:Nat)/\n < p/\p <= 300000/\l.length - p <= f/\ks++fl l en f p=fl l en l.length (n+1)/\I o ks ad/\∃ L1,ad.loop o=some L1/\L1.st .ready none=L/\L1.state=.ready/\L1.gh=none,
  ⟨_,[],l.length,n+1,rfl,rfl,rfl,rfl,by simp,by omega,by omega,by omega,rfl,I1,L,L8,by cases L; simp_all [fL.st],H4,Ps⟩,?_⟩
 clear I1 L8
 rintro m v0 v2 v3 v5 bh ⟨ks,f,p,rfl,rfl,rfl,rfl,rfl,hnp,hp3,hf,iE,I2,L1,jB,fV,Br,Bq⟩
 obtain ⟨k1,k2,k3⟩:=B5 _ _ _ I2
 rw [gM k2,eD,bC]
 simp only [cq,aj,bj,aP]
 have stop:fl l en f p=[]->al (Jv o Kn Ke Kr Kp) (.aH []) bh:=fun h=>by
  rw [h,gD] at iE
  refine al.mk ⟨L1,jB,by rw [Br]; simp,?_⟩
  rw [Bq]
  exact fin ks bh o L1 iE I2 jB
 by_cases aQ:(p:Int) < en
 . have nx:p < l.length:=by omega
   obtain ⟨x,hx⟩:∃ x,l[p]?=some x:=⟨l[p],by simp [nx]⟩
   cases f with
   | zero=>omega
   | succ f =>
   have wN:fl l en (f+1) p=if 0 < x.size then p::fl l en f (p+x.size.toNat) else []:=by
    simp only [fl,hx,aQ,true_and]
   simp only [aQ,dZ,iJ,cI,aJ,aZ,df,su k3,eD,jQ,mA]
   refine Ci hv hx fun r=>?_
   simp only [dJ,aJ,mA,dY,gE,List.drop,s8,jQ,eQ,aM,if_true,aj,ca]
   refine ⟨fun hs=>?_,fun hs=>?_⟩
   . rw [if_pos hs] at wN
     simp only [jk,yH]
     refine Y _ _ _ L1 rfl jB fV ?_
     refine ⟨L1,jB,Br,?_⟩
     have I3:=C3 o _ _ L1 { L1 with state:=.busy } I2 jB
     have sV:ks.length < l.length:=by
      have:=xV l en l.length (n+1)
      rw [<- iE,wN] at this
      simp at this; omega
     refine body ks p x _ o { L1 with state:=.busy } _ I3 hx aQ hs hnp sV ⟨_,by rw [<- iE,wN]⟩ fT (fun bW I4 rU tA=>?_) fun bW hJ3 tA=>?_
     . refine ⟨_,tA,?_⟩
       have I5:=C3 o _ _ _ { L1 with state:=.ready,gh:=none } I4 tA
       obtain ⟨j1,j2,j3⟩:=B5 _ _ _ I5
       simp only [bE,eI,aj,du,bp,aZ,df]
       rw [gM j3,eD,bC]
       refine EV hv hx fun r=>?_
       simp only [dJ,aj,dY,gE,List.drop,oH,bC,dO]
       refine ⟨bK (by omega) (by omega),_,?_,ks++[p],f,p+x.size.toNat,rfl,rfl,rfl,rfl,?_,by omega,by omega,by omega,?_,I5,_,fT,by rw [<- fV]; rfl,rfl,rfl⟩
       . omega
       . congr 1; omega
       . rw [<- iE,wN]; simp
     . refine ⟨_,tA,?_⟩
       simp only [bE,eI,aj,fD,bG]
       refine al.mk ⟨_,fT,by simp,?_⟩
       exact Uf _ o _ (hJ o _ _ _ hJ3 tA) fT
   . rw [if_neg hs] at wN
     exact stop wN
 . simp only [aQ,eX,show (false == true)=false from rfl,cC,aM,bQ,if_false,aj,bp]
   refine stop ?_
   cases f with
   | zero=>rfl
   | succ f =>
     simp only [fl]
     split
     . rw [if_neg (fun h=>aQ h.1)]
     . rfl
theorem HU:∀ {ss:List lF} {ks:List Int},dP ks ss=true->∀ k ∈ ks,∃ s ∈ ss,s.c.is k=true
 | [],ks,h,k,hk=>by
   have:ks.isEmpty=true:=h
   rw [List.isEmpty_iff] at this
   rw [this] at hk; cases hk
 | s::ss,ks,h,k,hk=>by
   rw [dP] at h
   split at h
   . cases h
   . rename_i hm
     have si:(ks.take (min (ks.length - (ss.map (·.least)).sum) s.oh)).takeWhile s.c.is <+: ks:=(wb _).trans (List.take_prefix _ _)
     obtain ⟨r,hr⟩:=si
     generalize hq:(ks.take (min (ks.length - (ss.map (·.least)).sum) s.oh)).takeWhile s.c.is=q at *
     have cm:∀ k ∈ q,s.c.is k=true:=fun k hk=>by
      rw [<- hq] at hk
      have key:∀ l:List Int,k ∈ l.takeWhile s.c.is->s.c.is k=true:=fun l=>by
       induction l with
       | nil=>simp
       | cons c l ih =>
         simp only [l9]
         split
         . rename_i hc
           intro h
           rcases cJ.1 h with rfl | h
           . exact hc
           . exact ih h
         . simp
      exact key _ hk
     rw [<- hr] at h hk
     rw [List.drop_left] at h
     rcases gu.1 hk with hk | hk
     . exact ⟨s,by simp,cm k hk⟩
     . obtain ⟨s',h1,h2⟩:=HU h k hk
       exact ⟨s',by simp [h1],h2⟩
theorem UL {c:Prop} [Decidable c] {a f:gl} {B:Option gl} {G:Prop} (h:(if c then some a else B)=some f) (h1:a=f->G) (h2:B=some f->G):G:=by
 split at h
 . exact h1 (Option.some.inj h)
 . exact h2 h
theorem Uk {k:Int} {f:gl} (h:bA k=some f):∀ s ∈ f.kids,s.c.is 1=false:=by
 unfold bA at h
 repeat' (refine UL h (fun h=>?_) (fun h=>?_))
 all_goals first
  | (subst h; simp [iQ.is,iY,pE,oM,cj,nz]; done)
  | cases h
theorem Es {t:Tre} (h:t.ok=true):∀ c ∈ t.kids,c.kind ≠ 1/\c.ok=true:=by
 cases t with
 | mk k x n m a ks =>
   obtain ⟨f,hf,_,h2,h3⟩:=Tre.rB h
   intro c hc
   refine ⟨fun e=>?_,h3 c hc⟩
   obtain ⟨s,hs,hk⟩:=HU h2 c.kind (List.mem_map_of_mem hc)
   rw [e,Uk hf s hs] at hk
   cases hk
def sh (k:Int):FuncId:=if iY k=true then 180 else if pE k=true then 182 else if 17 <= k/\k <= 25 then 183 else if 9 <= k/\k <= 16 then 184 else if cj k=true then 186 else 187
section
variable {b n:Nat} {U au aR ad:St} {v:AV} {br l rest:List Tx} {L:List Nd} {t:Tre}
theorem PS.jd {o:Nat} {z:fL} {bh:St} (h:PS b v au br U) (hn:au.live o=none) (ho:U.loop o=some z) (hs:∀ c,c ≠ o->bh.live c=U.live c):PS b v au br bh:=by
 obtain ⟨⟨vl,h1,h2⟩,h3⟩:=h
 refine ⟨⟨vl,by rw [dD (hs _ (bP h1 ho))]; exact h1,?_⟩,fun c y hc hy ht=>?_⟩
 . refine ⟨?_,h2.z,h2.t,xG _⟩
   rcases h2.g with g | ⟨τ,r1,r2,r3⟩
   . exact .inl g
   . exact .inr ⟨τ,r1,by rw [mT (hs _ (sM r2 ho))]; exact r2,r3⟩
 . rw [hs c fun e=>by subst e; rw [hn] at hy; cases hy]
   exact h3 c y hc hy ht
theorem PS.other {vk:AV} {e sz m:Nat} {lk:List AV} (h:PS b v au br U) (he:e ≠ 51) (g:je au U vk e sz m lk) (k:∀ c x,(∀ n l,vk ≠ .vec n (.own c) l)->U.live c=some x->ad.live c=some x):PS b v au br ad:=by
 obtain ⟨⟨vl,h1,h2⟩,h3⟩:=h
 refine ⟨⟨vl,(nT g.g k).1 h1,?_⟩,fun c y hc hy ht=>?_⟩
 . refine ⟨?_,h2.z,h2.t,xG _⟩
   rcases h2.g with g' | ⟨τ,r1,r2,r3⟩
   . exact .inl g'
   . refine .inr ⟨τ,r1,?_,r3⟩
     cases e':U.live τ with
     | none=>simp [St.tok,e'] at r2
     | some y =>
       have:=k τ y (fun n' l' hv=>by
        rcases g.g with ⟨_,_,g⟩ | ⟨vL,g,ht,_⟩
        . rw [g] at hv; cases hv
        . rw [g] at hv; cases hv
          rw [r2] at ht
          simp only [ji,Tok.mk.injEq] at ht
          exact he ht.2.1.symm) e'
       rw [mT (this.trans e'.symm)]; exact r2
 . refine k c y (fun n' l' hv=>?_) (h3 c y hc hy ht)
   rw [g.t _ _ _ hv] at hy; cases hy
end
end Go.Rip
namespace Go.Rip
open Go.Proofs Go.RowKit
section
variable {b n:Nat} {U au aR ad:St} {v:AV} {br l rest:List Tx} {L:List Nd} {t:Tre}
theorem PS.bZ {c:Nat} {y z:List AV} (h:PS b v au br U) (nc:c ≠ b) (hn:au.live c=none) (hc:U.box c=some y):PS b v au br (U.set c (.box z)):=by
 obtain ⟨⟨vl,h1,h2⟩,h3⟩:=h
 refine ⟨⟨vl,by rw [aY nc.symm]; exact h1,?_⟩,fun c' y' rn C8 ht=>?_⟩
 . refine ⟨?_,h2.z,h2.t,xG _⟩
   rcases h2.g with g | ⟨τ,r1,r2,r3⟩
   . exact .inl g
   . exact .inr ⟨τ,r1,by rw [gY (eZ hc r2).symm]; exact r2,r3⟩
 . rw [dQ,if_neg fun e=>by subst e; rw [hn] at C8; cases C8]
   exact h3 c' y' rn C8 ht
theorem YC {s:Tre} {pl:List Nat} (hv:Sl v L) (hL:L.length <= 1000) (hz:∀ (i:Nat) (y:Nd),L[i]?=some y->y.size <= 100000) (hs:gn L n s) (nx:pl=fj (n+1) s.kids) (hf:jG (sh s.kind) v s pl):qv v n s:=by
 intro b au U br R h hb hk
 obtain ⟨x,hx,uy,WT,hxt,hxn,hxm,Ly⟩:=hs.rh
 have hle:=hs.le
 have oT:=s.dE
 have abd:dY x=zb s x.size:=by unfold dY zb; rw [uy,hxt,hxn,hxm,Ly]
 have Lo:fl L ((n:Int)+x.size) L.length (n+1)=pl:=by
  rw [nx,WT]; exact xW hs
 refine Rl ?_
 unfold Rk
 obtain ⟨vl,iH⟩:=h.ld
 simp only [bN,aj]
 refine iz (iz (iz (eO iH rfl ?_)))
 refine EV hv.s hx fun r=>?_
 rw [uc]
 refine ⟨by simp [dY],?_⟩
 rw [show (dY x++r).take 6=dY x from rfl,cZ]
 intro b4 iw
 have m4:(U.new b4 (.box [AV.int .u8 0,AV.str [],AV.int .i64 0,AV.int .i64 0,AV.int .i64 0,AV.int .i64 0])).box b4=some [AV.int .u8 0,AV.str [],AV.int .i64 0,AV.int .i64 0,AV.int .i64 0,AV.int .i64 0]:=aK
 rw [dk m4]
 refine ⟨⟨rfl,rfl,by simp⟩,?_⟩
 rw [show aA [AV.int .u8 0,AV.str [],AV.int .i64 0,AV.int .i64 0,AV.int .i64 0,AV.int .i64 0] 0 (ax (.agg (dY x)))=dY x from rfl]
 have e4:dm U ((U.new b4 (.box [AV.int .u8 0,AV.str [],AV.int .i64 0,AV.int .i64 0,AV.int .i64 0,AV.int .i64 0])).set b4 (.box (dY x))):=(bB iw).set iw.1
 have m4:((U.new b4 (.box [AV.int .u8 0,AV.str [],AV.int .i64 0,AV.int .i64 0,AV.int .i64 0,AV.int .i64 0])).set b4 (.box (dY x))).box b4=some (dY x):=a7
 have h4:=h.mono e4
 have iH:=e4.bg iH
 have n4:b4 ≠ b:=fun e=>by subst e; exact absurd iw.1 (cD (by assumption:U.box b4=some [v,vl,opsV]))
 generalize (U.new b4 _).set b4 _=aR at *
 have up:∀ l ad,PS b v aR l ad->PS b v au l ad:=fun l ad h'=>h4.app h'
 have h4:=h4.DE
 rw [cZ]
 intro b5 kQ
 have m5:(aR.new b5 (.box [AV.aq])).box b5=some [.aq]:=aK
 have BA:=kQ.bX m4
 have n5:b5 ≠ b:=(kQ.bX iH).symm
 have e5:=bB kQ (x:=.box [AV.aq])
 have h5:=h4.mono e5
 have iH:=e5.bg iH
 have m4:=e5.bg m4
 generalize aR.new b5 (.box [AV.aq])=bh at *
 refine iz ?_
 rw [pc iH]
 refine ⟨by simp,?_⟩
 rw [show ([v,vl,opsV].drop 0).take 1=[v] from rfl]
 refine xZ (n:=n) hv.s hx (bK (by omega) (by omega)) fun bn be bt bW d1 d2 d3 f1 f2 f3 q1 q2 q3 e3=>?_
 rw [bE]
 have h6:=h5.mono e3
 have n4n:b4 ≠ bn:=fun e=>cD m4 (e ▸ f1)
 have n4e:b4 ≠ be:=fun e=>cD m4 (e ▸ f2)
 have n4t:b4 ≠ bt:=fun e=>cD m4 (e ▸ f3)
 have n5n:b5 ≠ bn:=fun e=>cD m5 (e ▸ f1)
 have n5e:b5 ≠ be:=fun e=>cD m5 (e ▸ f2)
 have n5t:b5 ≠ bt:=fun e=>cD m5 (e ▸ f3)
 have m4:=e3.bg m4
 have m5:=e3.bg m5
 have fin:∀ (jy:St) (vk:AV),jy.box b4=some (dY x)->jy.box b5=some [vk]->eP vk pl.length (jg pl)->PS b v aR br jy ->
  (af (some 0) (.box b4 0)).wp K jy (fun fK U =>
  (ak (some (false,1)) fK U).wp K U (fun fQ U =>
  ae K 179 [fQ] U (ag (fun iK U =>
  av iK (
   (ak (some (true,6)) (.box b4 0) U).wp K U (fun hZ U =>
   (ak (some (false,1)) (.box b5 0) U).wp K U (fun v37 U =>
   ae K 180 [.box b 0,hZ,v37] U (ag (fun gU U =>
   al R (AV.aH []) U) (aa R))) (aa R)) (aa R)) (
   (af (some 0) (.box b4 0)).wp K U (fun v40 U =>
   (ak (some (false,1)) v40 U).wp K U (fun j0 U =>
   ae K 181 [j0] U (ag (fun lz U =>
   av lz (
    (ak (some (true,6)) (.box b4 0) U).wp K U (fun nL U =>
    (ak (some (false,1)) (.box b5 0) U).wp K U (fun oF U =>
    ae K 182 [.box b 0,nL,oF] U (ag (fun v46 U =>
    al R (AV.aH []) U) (aa R))) (aa R)) (aa R)) (
    (af (some 0) (.box b4 0)).wp K U (fun rX U =>
    (ak (some (false,1)) rX U).wp K U (fun v49 U =>
    (aw .geq (BT.mk false false false none false) true v49 (AV.int .u8 17)).wp K U (fun ky U =>
    ao K (aL ky true) (af (some 0) (.box b4 0)) (fun nN =>
    ao K (aL ky true) (ak (some (false,1)) nN U) (fun v53 =>
    ao K (aL ky true) (aw .leq (BT.mk false false false none false) true v53 (AV.int .u8 25)) (fun nO =>
    (bM ky nO (AV.bool false)).wp K U (fun oG U =>
    av oG (
     (ak (some (true,6)) (.box b4 0) U).wp K U (fun q9 U =>
     (ak (some (false,1)) (.box b5 0) U).wp K U (fun pa U =>
     ae K 183 [.box b 0,q9,pa] U (ag (fun v59 U =>
     al R (AV.aH []) U) (aa R))) (aa R)) (aa R)) (
     (af (some 0) (.box b4 0)).wp K U (fun nX U =>
     (ak (some (false,1)) nX U).wp K U (fun uS U =>
     (aw .geq (BT.mk false false false none false) true uS (AV.int .u8 9)).wp K U (fun qi U =>
     ao K (aL qi true) (af (some 0) (.box b4 0)) (fun rY =>
     ao K (aL qi true) (ak (some (false,1)) rY U) (fun uT =>
     ao K (aL qi true) (aw .leq (BT.mk false false false none false) true uT (AV.int .u8 16)) (fun tH =>
     (bM qi tH (AV.bool false)).wp K U (fun xn U =>
     av xn (
      (ak (some (true,6)) (.box b4 0) U).wp K U (fun v70 U =>
      (ak (some (false,1)) (.box b5 0) U).wp K U (fun Ts U =>
      ae K 184 [.box b 0,v70,Ts] U (ag (fun v72 U =>
      al R (AV.aH []) U) (aa R))) (aa R)) (aa R)) (
      (af (some 0) (.box b4 0)).wp K U (fun td U =>
      (ak (some (false,1)) td U).wp K U (fun v75 U =>
      ae K 185 [v75] U (ag (fun v76 U =>
      av v76 (
       (ak (some (true,6)) (.box b4 0) U).wp K U (fun BO U =>
       (ak (some (false,1)) (.box b5 0) U).wp K U (fun DX U =>
       ae K 186 [.box b 0,BO,DX] U (ag (fun v80 U =>
       al R (AV.aH []) U) (aa R))) (aa R)) (aa R)) (
       (ak (some (true,6)) (.box b4 0) U).wp K U (fun v28 U =>
       (ak (some (false,1)) (.box b5 0) U).wp K U (fun ep U =>
       ae K 187 [.box b 0,v28,ep] U (ag (fun v30 U =>
       al R (AV.aH []) U) (aa R))) (aa R)) (aa R))) (aa R))) (aa R)) (aa R))) (aa R))))) (aa R)) (aa R)) (aa R))) (aa R))))) (aa R)) (aa R)) (aa R))) (aa R))) (aa R)) (aa R))) (aa R))) (aa R)) (aa R):=by
  intro jy vk m4 m5 dG h7
  have call:∀ f,sh s.kind=f->(ak (some (true,6)) (.box b4 0) jy).wp K jy (fun hZ U=>(ak (some (false,1)) (.box b5 0) U).wp K U (fun v37 U=>ae K f [.box b 0,hZ,v37] U (ag (fun gU U=>al R (AV.aH []) U) (aa R))) (aa R)) (aa R):=by
   intro f hfe
   rw [pc m4]
   refine ⟨by simp [dY],?_⟩
   rw [show ((dY x).drop 0).take 6=dY x from rfl]
   refine eO m5 rfl ?_
   rw [abd,<- hfe]
   exact hf _ _ _ _ _ _ _ dG h7 hb fun ad h'=>al.mk (hk ad (up _ _ h'))
  have Qf:∀ {K':AV->St->Prop} {Kp:AV->St->Prop},K' (.int .u8 s.kind) jy->(af (some 0) (.box b4 0)).wp K jy (fun fK U=>(ak (some (false,1)) fK U).wp K U K' Kp) Kp:=by
   intro K' Kp hK
   refine iz (eO m4 (show _=AV.int .u8 x.kind::_ from rfl) ?_)
   rw [uy]; exact hK
  refine Qf ((Dw s.kind).go ?_)
  cases c1:iY s.kind with
  | true=>exact eH (call 180 (by unfold sh; rw [if_pos c1]))
  | false =>
  refine eF (Qf ((Dz s.kind).go ?_))
  cases c2:pE s.kind with
  | true=>exact eH (call 182 (by unfold sh; rw [if_neg (by simp [c1]),if_pos c2]))
  | false =>
  refine eF (Qf ?_)
  have Ws:sh s.kind=if 17 <= s.kind/\s.kind <= 25 then 183 else if 9 <= s.kind/\s.kind <= 16 then 184 else if cj s.kind=true then 186 else 187:=by
   unfold sh; rw [if_neg (by simp [c1]),if_neg (by simp [c2])]
  have rng:∀ (lo hi:Int) (A B:AV->St->Prop),(lo <= s.kind/\s.kind <= hi->A (.bool true) jy)->(¬ (lo <= s.kind/\s.kind <= hi)->B (.bool false) jy) ->
   (aw .geq (BT.mk false false false none false) true (.int .u8 s.kind) (AV.int .u8 lo)).wp K jy (fun ky U =>
   ao K (aL ky true) (af (some 0) (.box b4 0)) (fun nN =>
   ao K (aL ky true) (ak (some (false,1)) nN U) (fun v53 =>
   ao K (aL ky true) (aw .leq (BT.mk false false false none false) true v53 (AV.int .u8 hi)) (fun nO =>
   (bM ky nO (AV.bool false)).wp K U (fun oG U=>av oG (A oG U) (B oG U)) (aa R))))) (aa R):=by
   intro lo hi A B hA hB
   rw [iq,aj]
   by_cases h1:lo <= s.kind
   . simp only [h1,dZ,bj,iJ,aP,cI]
     refine kN (fO m4 (show _=AV.int .u8 x.kind::_ from rfl) ?_)
     rw [uy,lq,aJ]
     simp only [aM,if_true,aj]
     by_cases h2:s.kind <= hi
     . simp only [h2,dZ]; exact eH (hA ⟨h1,h2⟩)
     . simp only [h2,eX]; exact eF (hB fun h3=>h2 h3.2)
   . simp only [h1,eX,bj,show (false == true)=false from rfl,aP,cC,aM,bQ,if_false,aj]
     exact eF (hB fun h3=>h1 h3.1)
  refine rng 17 25 _ _ (fun h1=>call 183 (by rw [Ws,if_pos h1])) fun h1=>Qf (rng 9 16 _ _ (fun h2=>call 184 (by rw [Ws,if_neg h1,if_pos h2])) fun h2=>Qf ((yj s.kind).go ?_))
  cases c3:cj s.kind with
  | true=>exact eH (call 186 (by rw [Ws,if_neg h1,if_neg h2,if_pos c3]))
  | false=>exact eF (call 187 (by rw [Ws,if_neg h1,if_neg h2,if_neg (by simp [c3])]))
 refine BF (n:=n) (en:=(n:Int)+x.size)
  (fun o ks ad=>(ad.box bn=some [.int .i64 (n:Nat)]/\ad.box be=some [.int .i64 ((n:Int)+x.size)]/\ad.box bt=some [v])/\ad.box b4=some (dY x)/\(∃ vk,ad.box b5=some [vk]/\je aR ad vk 3 1 ks.length (jg ks))/\aR.live o=none/\PS b v aR br ad)
  (fun _ _=>False) hv.s (by omega) (by omega) (by omega)
  (fun o ks ad hI=>hI.1) (fun o ks ad L0 L' hI ho=>?_) (fun o ad L0 L' hJ ho=>hJ) (fun ks jD y ad o L1 q hI hy aQ ad0 hnk sV si jB PM WN=>?_) (fun ks ad o L0 iE hI Fq=>?_) (fun ad o L0 hJ Fq=>hJ.elim) (fun o L0 ho=>?_)
 . obtain ⟨⟨i1,i2,i3⟩,i4,⟨vk,i5,i6⟩,i7,i8⟩:=hI
   have kb:∀ {c y},ad.box c=some y->(ad.set o (.loop L')).box c=some y:=fun h=>by rw [aY (bP h ho)]; exact h
   exact ⟨⟨kb i1,kb i2,kb i3⟩,kb i4,⟨vk,kb i5,i6.loop ho (i6.ex.set i7)⟩,i7,i8.jd i7 ho fun c hc=>by rw [dQ,if_neg hc]⟩
 . obtain ⟨⟨i1,i2,i3⟩,i4,⟨vk,i5,i6⟩,i7,i8⟩:=hI
   refine eO i5 rfl ?_
   refine Ou rfl rfl ?_
   refine JZ i6 (m:=1) (l2:=[.int .i64 (jD:Nat)]) rfl rfl (by omega) (by omega) fun dv v' g2 k2=>?_
   have kb:∀ {c y},ad.box c=some y->dv.box c=some y:=fun h=>(nT i6.g k2).1 h
   have kl:∀ {c L},ad.loop c=some L->dv.loop c=some L:=fun h=>(nT i6.g k2).2 h
   have i8:=i8.other (by decide) i6 k2
   have ux:v'.dh=true/\ax v'=[v']:=by
    rcases g2.g with ⟨h0,_,_⟩ | ⟨τ,r1,_,_⟩
    . omega
    . rw [r1]; exact ⟨rfl,rfl⟩
   have i5:=kb i5
   rw [dk i5]
   refine ⟨⟨ux.1,by rw [ux.2]; rfl,by simp⟩,?_⟩
   have i8':PS b v aR br (dv.set b5 (.box (aA [vk] 0 (ax v')))):=i8.bZ n5 kQ.1 i5
   refine PM _ ⟨⟨?_,?_,?_⟩,?_,⟨v',?_,?_⟩,i7,i8'⟩ ?_ ?_
   . rw [aY n5n.symm]; exact kb i1
   . rw [aY n5e.symm]; exact kb i2
   . rw [aY n5t.symm]; exact kb i3
   . rw [aY BA]; exact kb i4
   . rw [a7,ux.2]; rfl
   . have:je aR (dv.set b5 (.box (aA [vk] 0 (ax v')))) v' 3 1 (ks.length+1) (jg ks++[.int .i64 (jD:Nat)]):=by
      refine ⟨?_,g2.z,g2.t,g2.ex.set kQ.1⟩
      rcases g2.g with g | ⟨τ,r1,r2,r3⟩
      . exact .inl g
      . exact .inr ⟨τ,r1,by rw [gY (eZ i5 r2).symm]; exact r2,r3⟩
     simpa [jg] using this
   . exact hz _ _ hy
   . rw [gq]; exact kl jB
     rw [dQ,if_neg (bP i5 (kl jB)).symm]
 . obtain ⟨⟨i1,i2,i3⟩,i4,⟨vk,i5,i6⟩,i7,i8⟩:=hI
   have kb:∀ {c y},ad.box c=some y->(ad.del o).box c=some y:=fun h=>by rw [jr (bP h Fq)]; exact h
   have i8:=i8.jd (bh:=ad.del o) i7 Fq fun c hc=>by rw [kJ,if_neg hc]
   rw [Lo] at iE
   subst iE
   exact fin _ vk (kb i4) (kb i5) i6.sl i8
 . have e:=bB ho (x:=.loop L0)
   exact ⟨⟨e.bg q1,e.bg q2,e.bg q3⟩,e.bg m4,⟨.aq,e.bg m5,je.nil ((e5.trans e3).trans e)⟩,(e5.trans e3).fresh ho.1,h6.mono e⟩
end
end Go.Rip
namespace Go.Rip
open Go.Proofs Go.RowKit
section
variable {v:AV} {L:List Nd}
theorem aa1 {s:Tre} {pl:List Nat} (hv:eP v L.length (cF L)) (h9:s.flat.length <= 900) (ho:s.ok=true) (h1:s.kind ≠ 1) (hp:fG v L pl s.kids):jG (sh s.kind) v s pl:=by
 cases s with
 | mk k x nn m a ks =>
   obtain ⟨fo,ey,g1,g2,g3⟩:=Tre.rB ho
   obtain ⟨f1,f2,f3,f4,f5,f6⟩:=ir g1
   have hlen:(Tre.bq ks).length+1=(Tre.mk k x nn m a ks).flat.length:=by rw [Tre.eA]; simp
   have sV:ks.length <= 900:=by have:=Tre.nS ks; omega
   have hp:fG v L pl ks:=hp
   have qO:k ≠ 1:=h1
   have hk:(k=2\/(k=3\/k=4))\/k=5\/(k=6\/k=7)\/k=8\/k=9\/k=10\/(k=11\/k=15)\/k=12\/k=13\/k=14\/k=16\/(k ∈ nU/\k ≠ 25)\/k=19\/k=25\/k=26\/(k=27\/k=28\/k=29\/k=30)\/k=31\/k=32\/k=33\/k=34\/k=35\/k=36\/k=37:=by
    by_cases hr:2 <= k/\k <= 37
    . simp only [nU,cJ,List.not_mem_nil,or_false]; omega
    . exfalso
      unfold bA at ey
      rw [if_neg (by omega),if_neg (by omega),if_neg (by omega),if_neg (by omega),if_neg (by omega),if_neg (by omega),if_neg (by omega),if_neg (by omega),if_neg (by omega),if_neg (by omega),if_neg (by omega),if_neg (by omega),if_neg (by omega),if_neg (by omega),if_neg (by omega),if_neg (by omega),if_neg (by omega),if_neg (by omega),if_neg (by omega),if_neg (by omega),if_neg (by omega)] at ey
      cases ey
   have nil:dP (ks.map Tre.kind) []=true->ks=[]:=fun h=>by
    have:(ks.map Tre.kind).isEmpty=true:=h
    simpa using this
   have term:∀ {c:Tre},iQ.term.is c.kind=true->cj c.kind=true:=fun h=>h
   rcases hk with (rfl | hk) | rfl | hk | rfl | rfl | rfl | hk | rfl | rfl | rfl | rfl | ⟨hk,um⟩ | rfl | rfl | rfl | hk | rfl | rfl | rfl | rfl | rfl | rfl | rfl
   . obtain rfl:(⟨true,false,false,[⟨.type,1,1⟩]⟩:gl)=fo:=by simpa [bA] using ey
     obtain ⟨A,rfl,_⟩:=mY g2
     exact Kg hp
   . have kD:fo=⟨true,false,false,[⟨.kind 5,0,900⟩,⟨.base,1,1⟩,⟨.term,1,1⟩]⟩:=by rcases hk with rfl | rfl <;> simpa [bA] using ey.symm
     subst kD
     obtain ⟨ps,B,C,rfl,_,_,_,_⟩:=xY (by omega) g2
     have:sh k=180:=by rcases hk with rfl | rfl <;> rfl
     show jG (sh k) _ _ _
     rw [this]
     exact T4 hk (by simp at sV; omega) hp
   . obtain rfl:(⟨true,false,false,[⟨.type,1,1⟩]⟩:gl)=fo:=by simpa [bA] using ey
     obtain ⟨A,rfl,_⟩:=mY g2
     exact MS hp
   . have kD:fo=⟨false,true,false,[]⟩:=by rcases hk with rfl | rfl <;> simpa [bA] using ey.symm
     subst kD
     obtain rfl:=nil g2
     have:sh k=182:=by rcases hk with rfl | rfl <;> rfl
     show jG (sh k) _ _ _
     rw [this]
     exact O8 hk f3
   . obtain rfl:(⟨false,false,false,[⟨.base,2,900⟩]⟩:gl)=fo:=by simpa [bA] using ey
     obtain ⟨hl,_⟩:=AH g2
     obtain ⟨ps,B,rfl⟩:=mC (l:=ks) (by omega)
     exact MQ (by simp at sV; omega) hp
   . obtain rfl:(⟨false,false,false,[⟨.term,2,900⟩]⟩:gl)=fo:=by simpa [bA] using ey
     obtain ⟨hl,hc⟩:=AH g2
     match ks,hl with
     | A::ts,_=>exact Uc (by simp at sV; omega) hv hp fun t ht=>hc t ht
   . obtain rfl:(⟨false,false,false,[⟨.term,3,3⟩]⟩:gl)=fo:=by simpa [bA] using ey
     obtain ⟨A,B,C,rfl,hA,hB,hC⟩:=WY g2
     exact Yb hv hp hA hB hC
   . have kD:fo=⟨false,false,false,[⟨.term,2,2⟩]⟩:=by rcases hk with rfl | rfl <;> simpa [bA] using ey.symm
     subst kD
     obtain ⟨A,B,rfl,hA,hB⟩:=xX g2
     rcases hk with rfl | rfl
     . exact HQ (k:=11) (w:=fX) (u:=rP) (by simp) hv hp hA hB
     . exact HQ (k:=15) (w:=gH) (u:=eG) (by simp) hv hp hA hB
   . obtain rfl:(⟨true,true,true,[⟨.term,1,1⟩]⟩:gl)=fo:=by simpa [bA] using ey
     obtain ⟨A,rfl,hA⟩:=mY g2
     exact Ua f3 f4 hv hp hA
   . obtain rfl:(⟨true,false,false,[⟨.term,2,2⟩]⟩:gl)=fo:=by simpa [bA] using ey
     obtain ⟨A,B,rfl,hA,hB⟩:=xX g2
     exact MR hv hp hA hB
   . obtain rfl:(⟨true,true,false,[⟨.term,1,1⟩]⟩:gl)=fo:=by simpa [bA] using ey
     obtain ⟨A,rfl,hA⟩:=mY g2
     exact Kh f3 hv hp hA
   . obtain rfl:(⟨true,false,false,[⟨.term,1,1⟩]⟩:gl)=fo:=by simpa [bA] using ey
     obtain ⟨A,rfl,hA⟩:=mY g2
     exact Ub hv hp hA
   . have kD:fo=⟨false,false,false,[⟨.term,2,2⟩]⟩:=by
      simp only [nU,cJ,List.not_mem_nil,or_false] at hk
      rcases hk with rfl | rfl | rfl | rfl | rfl | rfl | rfl | rfl
      all_goals first
       | exact absurd rfl um
       | simpa [bA] using ey.symm
     subst kD
     obtain ⟨A,B,rfl,hA,hB⟩:=xX g2
     have:sh k=183:=by
      simp only [nU,cJ,List.not_mem_nil,or_false] at hk
      rcases hk with rfl | rfl | rfl | rfl | rfl | rfl | rfl | rfl <;> rfl
     show jG (sh k) _ _ _
     rw [this]
     exact Lb hk (.inr ⟨um,B,rfl,hB⟩) hv hp hA
   . obtain rfl:(⟨false,false,false,[⟨.term,1,1⟩]⟩:gl)=fo:=by simpa [bA] using ey
     obtain ⟨A,rfl,hA⟩:=mY g2
     exact T9 hv hp hA
   . obtain rfl:(⟨false,true,false,[⟨.term,1,1⟩]⟩:gl)=fo:=by simpa [bA] using ey
     obtain ⟨A,rfl,hA⟩:=mY g2
     exact Lb (k:=25) (rs:=[]) (by decide) (.inl ⟨rfl,rfl,f3⟩) hv hp hA
   . obtain rfl:(⟨false,true,false,[]⟩:gl)=fo:=by simpa [bA] using ey
     obtain rfl:=nil g2
     exact Ue f3
   . have kD:fo=⟨false,false,false,[]⟩:=by rcases hk with rfl | rfl | rfl | rfl <;> simpa [bA] using ey.symm
     subst kD
     obtain rfl:=nil g2
     rcases hk with rfl | rfl | rfl | rfl
     . exact u3 (k:=27) (w:=dy) (by simp)
     . exact u3 (k:=28) (w:=dB) (by simp)
     . exact u3 (k:=29) (w:=fB) (by simp)
     . exact u3 (k:=30) (w:=gK) (by simp)
   . obtain rfl:(⟨true,false,false,[]⟩:gl)=fo:=by simpa [bA] using ey
     obtain rfl:=nil g2
     exact Pa
   . obtain rfl:(⟨true,false,false,[]⟩:gl)=fo:=by simpa [bA] using ey
     obtain rfl:=nil g2
     exact Ud
   . obtain rfl:(⟨true,false,false,[]⟩:gl)=fo:=by simpa [bA] using ey
     obtain rfl:=nil g2
     exact Pb
   . exact O9 (by omega) hp
   . obtain rfl:(⟨false,false,false,[⟨.kind 37,1,900⟩,⟨.term,1,1⟩]⟩:gl)=fo:=by simpa [bA] using ey
     obtain ⟨ps,B,rfl,hl,_,hB⟩:=De (by omega) g2
     exact Yc (by simp at sV; omega) hl hv hp hB
   . obtain rfl:(⟨false,false,false,[⟨.term,1,1⟩,⟨.kind 37,1,1⟩,⟨.term,1,1⟩]⟩:gl)=fo:=by simpa [bA] using ey
     obtain ⟨A,B,C,rfl,hA,_,hC⟩:=LL g2
     exact Ki hv hp hA hC
   . obtain rfl:(⟨true,false,false,[]⟩:gl)=fo:=by simpa [bA] using ey
     obtain rfl:=nil g2
     exact Pc
theorem Jf (hv:Sl v L) (hL:L.length <= 1000) (hz:∀ (i:Nat) (y:Nd),L[i]?=some y->y.size <= 100000):∀ (N:Nat) (s:Tre) (n:Nat),s.flat.length <= N->gn L n s->s.flat.length <= 900->s.ok=true->s.kind ≠ 1->qv v n s
 | 0,s,n,hN,_,_,_,_=>by have:=s.dE; omega
 | N+1,s,n,hN,hs,h9,ho,h1=>by
   have hk:=Es ho
   have Bk:=mL s
   refine YC hv hL hz hs rfl (aa1 hv.s h9 ho h1 ⟨qo _ _,fun i q t hq ht=>?_⟩)
   obtain ⟨u,hu,WR⟩:=yx hs.kids hq
   rw [ht] at hu
   obtain rfl:t=u:=by simpa using hu
   have hm:=gr ht
   have aQ:=Tre.uA hm
   obtain ⟨k1,k2⟩:=hk t hm
   obtain ⟨x,hx,uy,_⟩:=WR.rh
   exact ⟨Jf hv hL hz N t q (by omega) WR (by omega) k2 k1,x,hx,uy⟩
end
end Go.Rip
