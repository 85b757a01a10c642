/- Lemmas for the proof: no conditions. -/
import Derived.Test.YtnfpmiiopiinbaaGreatDoorRipZz
import Derived.Test.YtnfpmiiopiinbaaGreatDoorRipYg
set_option linter.unusedVariables false
set_option linter.unusedSimpArgs false
set_option linter.loopingSimpArgs false
namespace Go.Rip
open Go.Proofs Go.RowKit
section
variable {b n:Nat} {U aq aR ad:St} {v:AV} {bp l rest:List Tx} {L:List Nd} {t:Tre} {x:aK} {nn m a:Int} {pl:List Nat}
theorem rS {C:cQ} {K':AV->St->Prop} {Kp:AV->St->Prop} {mm:Nat} {ks vs ks' vs':List AV} {k:Int} {y:AV} {ty:TypeId} (h:U.mp mm=some (ks,vs)) (hf:lY .i (.int .u8 k) ks 0=some none) (hi:gS (.int .u8 k) y ks vs=(ks',vs')) :
 (dX (some (.i,ty)) (.mp mm) (.int .u8 k) y U).wp C U K' Kp=K' (.aH []) (U.set mm (.mp ks' vs')):=by
 simp only [dX,h,hf,qk,hi]; rfl
theorem TB (hn:dH nn=true):jx 186 v (.mk 26 x nn m a []) pl:=by
 intro b aq U bp R z vk dG h hb hk
 have e:(Tre.mk 26 x nn m a []).pr=[jl nn]:=by rw [Tre.fi]; simp [bw]
 rw [e] at hb
 refine qV ?_
 unfold uH
 refine fV h fun b4 aR n4 m4 h1 up=>gE n4 m4 h1 (show _=some (.int .u8 26) from rfl) ?_
 refine p7 rfl (gE n4 m4 h1 rfl ?_)
 refine qW hn h1 hb fun a7 h2 _=>ak.mk (hk _ (up _ _ ?_))
 rw [e]; exact h2
theorem Ox:jx 186 v (.mk 31 x nn m a []) pl:=by
 intro b aq U bp R z vk dG h hb hk
 have e:(Tre.mk 31 x nn m a []).pr=[jI].map aC++[eF x]:=by rw [Tre.fi]; simp [bw]
 rw [e] at hb
 refine qV ?_
 unfold uH
 refine fV h fun b4 aR n4 m4 h1 up=>gE n4 m4 h1 (show _=some (.int .u8 31) from rfl) ?_
 refine fU (by decide) (p7 rfl ?_)
 refine cT (dK (by decide) (by decide) h1 hb fun a7 h2 b2=>gE n4 m4 h2 rfl ?_)
 refine nv h2 b2 fun bO h3 _=>ak.mk (hk _ (up _ _ ?_))
 rw [e]; simpa [Tre.text,Tre.n,Tre.m] using h3
theorem TA:jx 186 v (.mk 32 x nn m a []) pl:=by
 intro b aq U bp R z vk dG h hb hk
 have e:(Tre.mk 32 x nn m a []).pr=[lM].map aC++[eF x]:=by rw [Tre.fi]; simp [bw]
 rw [e] at hb
 refine qV ?_
 unfold uH
 refine fV h fun b4 aR n4 m4 h1 up=>gE n4 m4 h1 (show _=some (.int .u8 32) from rfl) ?_
 refine fU (by decide) (fU (by decide) (p7 rfl ?_))
 refine cT (dK (by decide) (by decide) h1 hb fun a7 h2 b2=>gE n4 m4 h2 rfl ?_)
 refine nv h2 b2 fun bO h3 _=>ak.mk (hk _ (up _ _ ?_))
 rw [e]; simpa [Tre.text,Tre.n,Tre.m] using h3
theorem Oy:jx 186 v (.mk 33 x nn m a []) pl:=by
 intro b aq U bp R z vk dG h hb hk
 have e:(Tre.mk 33 x nn m a []).pr=[eF x]:=by rw [Tre.fi]; simp [bw]
 rw [e] at hb
 refine qV ?_
 unfold uH
 refine fV h fun b4 aR n4 m4 h1 up=>gE n4 m4 h1 (show _=some (.int .u8 33) from rfl) ?_
 refine fU (by decide) (fU (by decide) (fU (by decide) (p7 rfl (gE n4 m4 h1 rfl ?_))))
 refine nv h1 hb fun bO h3 _=>ak.mk (hk _ (up _ _ ?_))
 rw [e]; exact h3
theorem Ow {ks:List Tre} (CO:ks.length <= 1000) (hp:fE v L pl ks):jx 186 v (.mk 34 x nn m a ks) pl:=by
 intro b aq U bp R z vk dG h hb hk
 have e:(Tre.mk 34 x nn m a ks).pr=eF x::([cP].map aC++(dz cV (ks.map Tre.pr)++([cC].map aC++[]))):=by
  rw [Tre.fi]
  simp only [bw,List.map_map]
  simp [Function.comp_def]
 rw [e] at hb
 refine qV ?_
 unfold uH
 refine fV h fun b4 aR n4 m4 h1 up=>gE n4 m4 h1 (show _=some (.int .u8 34) from rfl) ?_
 refine fU (by decide) (fU (by decide) (fU (by decide) (fU (by decide) (p7 rfl (gE n4 m4 h1 rfl ?_)))))
 refine nv h1 hb fun a7 h2 b2=>?_
 refine cT (dK (by decide) (by decide) h2 b2 fun bO h3 b3=>?_)
 refine AL dG hp CO h3 b3 fun cG h4 qH=>?_
 refine cT (dK (by decide) (by decide) h4 qH fun di h5 _=>ak.mk (hk _ (up _ _ ?_)))
 rw [e]; simpa [Tre.text,Tre.n,Tre.m] using h5
theorem uU {k:Int} {w:aK} (HN:(k,w) ∈ [((27:Int),dB),(28,dE),(29,fB),(30,gw)]):jx 186 v (.mk k x nn m a []) pl:=by
 intro b aq U bp R z vk dG h hb hk
 have e:(Tre.mk k x nn m a []).pr=[w].map aC++[]:=by
  rw [Tre.fi]
  simp only [cD,List.not_mem_nil,or_false,jA] at HN
  rcases HN with ⟨rfl,rfl⟩ | ⟨rfl,rfl⟩ | ⟨rfl,rfl⟩ | ⟨rfl,rfl⟩ <;> simp [bw]
 rw [e] at hb
 have hw:w ≠ []:=by
  simp only [cD,List.not_mem_nil,or_false,jA] at HN
  rcases HN with ⟨_,rfl⟩ | ⟨_,rfl⟩ | ⟨_,rfl⟩ | ⟨_,rfl⟩ <;> decide
 have KV:27 <= k/\k <= 30:=by
  simp only [cD,List.not_mem_nil,or_false,jA] at HN
  omega
 refine qV ?_
 unfold uH
 refine fV h fun b4 aR n4 m4 h1 up=>gE n4 m4 h1 (show _=some (.int .u8 k) from rfl) ?_
 refine fU (by omega) (fU (by omega) (fU (by omega) (fU (by omega) (fU (by omega) ?_))))
 rw [kO]
 intro mm sV
 rw [show NV.at mm .mp=AV.mp mm from rfl]
 rw [rS (ks':=[.int .u8 27]) (vs':=[.str dB]) ve rfl rfl]
 rw [rS (ks':=[.int .u8 27,.int .u8 28]) (vs':=[.str dB,.str dE]) gO rfl rfl]
 rw [rS (ks':=[.int .u8 27,.int .u8 28,.int .u8 29]) (vs':=[.str dB,.str dE,.str fB]) gO rfl rfl]
 rw [rS (ks':=[.int .u8 27,.int .u8 28,.int .u8 29,.int .u8 30]) (vs':=[.str dB,.str dE,.str fB,.str gw]) gO rfl rfl]
 have e1:cW aR (((((aR.new mm (.mp [] [])).set mm (.mp [.int .u8 27] [.str dB])).set mm (.mp [.int .u8 27,.int .u8 28] [.str dB,.str dE])).set mm (.mp [.int .u8 27,.int .u8 28,.int .u8 29] [.str dB,.str dE,.str fB])).set mm (.mp [.int .u8 27,.int .u8 28,.int .u8 29,.int .u8 30] [.str dB,.str dE,.str fB,.str gw])) :=
  ((((bg sV).set sV.1).set sV.1).set sV.1).set sV.1
 have PH:((((((aR.new mm (.mp [] [])).set mm (.mp [.int .u8 27] [.str dB])).set mm (.mp [.int .u8 27,.int .u8 28] [.str dB,.str dE])).set mm (.mp [.int .u8 27,.int .u8 28,.int .u8 29] [.str dB,.str dE,.str fB])).set mm (.mp [.int .u8 27,.int .u8 28,.int .u8 29,.int .u8 30] [.str dB,.str dE,.str fB,.str gw]))).mp mm=some ([.int .u8 27,.int .u8 28,.int .u8 29,.int .u8 30],[.str dB,.str dE,.str fB,.str gw]):=gO
 have h2:=h1.mono e1
 generalize ((((aR.new mm (.mp [] [])).set mm _).set mm _).set mm _).set mm _=a7 at *
 refine gE n4 m4 h2 (show _=some (.int .u8 k) from rfl) ?_
 have O0:et (some (.i,9)) (some (AV.str [])) (.mp mm) (.int .u8 k) false a7=.val (.str w):=by
  simp only [et,kB,PH]
  simp only [cD,List.not_mem_nil,or_false,jA] at HN
  rcases HN with ⟨rfl,rfl⟩ | ⟨rfl,rfl⟩ | ⟨rfl,rfl⟩ | ⟨rfl,rfl⟩ <;> rfl
 rw [O0,al]
 refine cT (dK (rest:=[]) (fun u hu=>by rw [jz] at hu; subst hu; exact hw) (by simp) h2 hb fun bO h3 _=>ak.mk (hk _ (up _ _ ?_)))
 rw [e,gy]; exact h3
theorem Mh {A:Tre} (hp:fE v L pl [A]):jx 187 v (.mk 5 x nn m a [A]) pl:=by
 intro b aq U bp R z vk dG h hb hk
 have e:(Tre.mk 5 x nn m a [A]).pr=eF x::([ez].map aC++(A.pr++[])):=by rw [Tre.fi]; simp [bw]
 rw [e] at hb
 obtain ⟨p,rfl,g,_⟩:=hp.one
 refine vp ?_
 unfold Ab
 refine fV h fun b4 aR n4 m4 h1 up=>gE n4 m4 h1 (show _=some (.int .u8 5) from rfl) ?_
 refine p7 rfl (gE n4 m4 h1 rfl ?_)
 refine nv h1 hb fun a7 h2 b2=>?_
 refine cT (dK (by decide) (by decide) h2 b2 fun bO h3 b3=>?_)
 refine kZ (i:=0) dG rfl ?_
 refine sA g h3 b3 fun cG h4 _=>ak.mk (hk _ (up _ _ ?_))
 rw [e]; simpa [Tre.text,Tre.n,Tre.m] using h4
theorem Oz:jx 187 v (.mk 37 x nn m a []) pl:=by
 intro b aq U bp R z vk dG h hb hk
 have e:(Tre.mk 37 x nn m a []).pr=[eF x]:=by rw [Tre.fi]; simp [bw]
 rw [e] at hb
 refine vp ?_
 unfold Ab
 refine fV h fun b4 aR n4 m4 h1 up=>gE n4 m4 h1 (show _=some (.int .u8 37) from rfl) ?_
 refine fU (by decide) (p7 rfl (gE n4 m4 h1 rfl ?_))
 refine nv h1 hb fun bO h3 _=>ak.mk (hk _ (up _ _ ?_))
 rw [e]; exact h3
theorem XT {ps:List Tre} {B:Tre} (CO:ps.length <= 900) (tA:1 <= ps.length) (hv:eJ v L.length (bK L)) (hp:fE v L pl (ps++[B])) (hB:cq B.kind=true):jx 187 v (.mk 35 x nn m a (ps++[B])) pl:=by
 intro b aq U bp R z vk dG h hb hk
 have e:(Tre.mk 35 x nn m a (ps++[B])).pr=[rR,cP].map aC++(dz cV (ps.map Tre.pr)++(dM [cC] [B]++[])):=by
  rw [Tre.fi]
  have e1:(ps++[B]).map (fun t=>(t.kind,t.pr))=(ps.map fun t=>(t.kind,t.pr))++[(B.kind,B.pr)]:=by simp
  rw [e1]
  generalize hq:ps.map (fun t=>(t.kind,t.pr))=q
  have e3:ps.map Tre.pr=q.map (·.2):=by rw [<- hq,List.map_map]; rfl
  rw [e3]
  simp [bw,dM,pT]
 rw [e] at hb
 have hlen:=hp.len
 rw [df,List.length_singleton] at hlen
 obtain ⟨Bl,wG⟩:=hp.app
 have Fg:=Bl.len
 have tz:=wG.len
 have cn:pl ≠ []:=fun e=>by rw [e] at hlen; simp at hlen
 refine vp ?_
 unfold Ab
 refine fV h fun b4 aR n4 m4 h1 up=>gE n4 m4 h1 (show _=some (.int .u8 35) from rfl) ?_
 refine fU (by decide) (fU (by decide) (p7 rfl ?_))
 rw [dG.len,al,GR]
 refine ⟨bI (by omega) (by omega),?_⟩
 have xy:((pl.length:Int) - 1)=((ps.length:Nat):Int):=by omega
 rw [xy]
 refine pt (dK (by decide) (by decide) h1 hb fun a7 h2 b2=>?_)
 refine nX (i:=0) (j:=ps.length) dG cn (by omega) (by omega) (jX _ _ _) rfl fun c=>?_
 rw [eD]
 refine AL (.inr ⟨_,rfl⟩) Bl (by omega) h2 b2 fun bO h3 b3=>?_
 refine nX (i:=ps.length) (j:=pl.length) dG cn (by omega) (by omega) rfl (jX _ _ _) fun c=>?_
 rw [tn]
 refine cT (kf hv (.inr ⟨_,rfl⟩) wG (by simp [hB]) rfl (by simp) (by decide) h3 b3 fun vA h8 _=>ak.mk (hk _ (up _ _ ?_)))
 rw [e]; simpa using h8
theorem JT {A B C:Tre} (hv:eJ v L.length (bK L)) (hp:fE v L pl [A,B,C]) (hA:cq A.kind=true) (hC:cq C.kind=true):jx 187 v (.mk 36 x nn m a [A,B,C]) pl:=by
 intro b aq U bp R z vk dG h hb hk
 have e:(Tre.mk 36 x nn m a [A,B,C]).pr=[mO].map aC++(dM [yq] [A]++([cH,yr].map aC++(B.pr++(dM [vw] [C]++([rQ].map aC++[]))))):=by
  rw [Tre.fi]; simp [bw,dM]
 rw [e] at hb
 obtain ⟨p,q,r,rfl,⟨gA,xA,Pd,OZ⟩,⟨gB,_⟩,gC,xC,hxC,hkC⟩:=hp.three
 have hpA:fE v L [p] [A]:=⟨rfl,fun i n t h1 h2=>by
  match i,h1,h2 with
  | 0,h1,h2=>simp at h1 h2; subst h1 h2; exact ⟨gA,xA,Pd,OZ⟩⟩
 have hpC:fE v L [r] [C]:=⟨rfl,fun i n t h1 h2=>by
  match i,h1,h2 with
  | 0,h1,h2=>simp at h1 h2; subst h1 h2; exact ⟨gC,xC,hxC,hkC⟩⟩
 refine vp ?_
 unfold Ab
 refine fV h fun b4 aR n4 m4 h1 up=>gE n4 m4 h1 (show _=some (.int .u8 36) from rfl) ?_
 refine fU (by decide) (fU (by decide) (fU (by decide) (p7 rfl ?_)))
 refine cT (dK (by decide) (by decide) h1 hb fun a7 h2 b2=>?_)
 refine nX (i:=0) (j:=1) dG (by simp) (by omega) (by simp) rfl rfl fun c=>?_
 refine cT (kf (pl:=[p]) hv (.inr ⟨_,rfl⟩) hpA (by simp [hA]) rfl (by simp) (by decide) h2 b2 fun bO h3 b3=>?_)
 refine pt (dK (by decide) (by decide) h3 b3 fun cG h4 qH=>?_)
 refine kZ (i:=1) dG rfl ?_
 refine sA gB h4 qH fun di h5 b5=>?_
 refine nX (i:=2) (j:=3) dG (by simp) (by omega) (by simp) rfl rfl fun c=>?_
 refine cT (kf (pl:=[r]) hv (.inr ⟨_,rfl⟩) hpC (by simp [hC]) rfl (by simp) (by decide) h5 b5 fun mK h6 b6=>?_)
 refine cT (dK (by decide) (by decide) h6 b6 fun jo h7 _=>ak.mk (hk _ (up _ _ ?_)))
 rw [e]; simpa using h7
theorem Mf {ps:List Tre} {B:Tre} (CO:ps.length <= 900) (hp:fE v L pl (ps++[B])):jx 182 v (.mk 8 x nn m a (ps++[B])) pl:=by
 intro b aq U bp R z vk dG h hb hk
 have e:(Tre.mk 8 x nn m a (ps++[B])).pr=[cP].map aC++(dz cV (ps.map Tre.pr)++([cC,fO].map aC++(B.pr++[]))):=by
  rw [Tre.fi]
  have e1:(ps++[B]).map (fun t=>(t.kind,t.pr))=(ps.map fun t=>(t.kind,t.pr))++[(B.kind,B.pr)]:=by simp
  rw [e1]
  generalize hq:ps.map (fun t=>(t.kind,t.pr))=q
  have e3:ps.map Tre.pr=q.map (·.2):=by rw [<- hq,List.map_map]; rfl
  rw [e3]
  simp [bw,pT]
 rw [e] at hb
 have hlen:=hp.len
 rw [df,List.length_singleton] at hlen
 obtain ⟨Bl,wG⟩:=hp.app
 have cn:pl ≠ []:=fun e=>by rw [e] at hlen; simp at hlen
 obtain ⟨p,Fk,gB,_⟩:=wG.one
 have mZ:pl[ps.length]?=some p:=by
  have:(pl.drop ps.length)[0]?=some p:=by rw [Fk]; rfl
  simpa using this
 refine F5 ?_
 unfold Jc
 refine fV h fun b4 aR n4 m4 h1 up=>gE n4 m4 h1 (show _=some (.int .u8 8) from rfl) ?_
 refine p7 rfl ?_
 rw [dG.len,al,GR]
 refine ⟨bI (by omega) (by omega),?_⟩
 have xy:((pl.length:Int) - 1)=((ps.length:Nat):Int):=by omega
 rw [xy]
 refine cT (dK (by decide) (by decide) h1 hb fun a7 h2 b2=>?_)
 refine nX (i:=0) (j:=ps.length) dG cn (by omega) (by omega) (jX _ _ _) rfl fun c=>?_
 rw [eD]
 refine AL (.inr ⟨_,rfl⟩) Bl (by omega) h2 b2 fun bO h3 b3=>?_
 refine pt (dK (by decide) (by decide) h3 b3 fun cG h4 qH=>?_)
 refine kZ dG mZ ?_
 refine sA gB h4 qH fun di h5 b5=>ak.mk (hk _ (up _ _ ?_))
 rw [e]; simpa using h5
theorem Ov {k:Int} (aa6:k=6\/k=7) (hn:dH nn=true):jx 182 v (.mk k x nn m a []) pl:=by
 intro b aq U bp R z vk dG h hb hk
 refine F5 ?_
 unfold Jc
 refine fV h fun b4 aR n4 m4 h1 up=>gE n4 m4 h1 (show _=some (.int .u8 k) from rfl) ?_
 refine fU (by omega) (gE n4 m4 h1 (show _=some (.int .u8 k) from rfl) ?_)
 have big:(∀ y,(Tre.mk k x nn m a []).pr=y->y=[(if k=6 then ku else jH)].map aC++[jl nn])->(aD.vg).wp K aR (fun v8 U =>
  (dX (some (.i,9)) v8 (AV.int .u8 6) (AV.str ku) U).wp K U (fun _ U =>
  (dX (some (.i,9)) v8 (AV.int .u8 7) (AV.str jH) U).wp K U (fun _ U =>
  (af (some 0) (.box b4 0)).wp K U (fun v10 U =>
  (aj (some (false,1)) v10 U).wp K U (fun v11 U =>
  (et (some (.i,9)) (some (AV.str [])) v8 v11 false U).wp K U (fun v12 U =>
  (ar (some (9,1)) (some [AV.str []]) 1 false [(0,v12)]).wp K U (fun ck U =>
  ae K 231 [.box b 0,ck] U (ag (fun ct U =>
  (af (some 2) (.box b4 0)).wp K U (fun cO U =>
  (aj (some (false,1)) cO U).wp K U (fun dv U =>
  ae K 234 [.box b 0,dv] U (ag (fun cu U =>
  ak R (AV.aH []) U) (aa R))) (aa R)) (aa R)) (aa R))) (aa R)) (aa R)) (aa R)) (aa R)) (aa R)) (aa R)) (aa R):=by
  intro he
  have e:=he _ rfl
  have hw:(if k=6 then ku else jH) ≠ []:=by split <;> decide
  rw [e] at hb
  rw [kO]
  intro mm sV
  rw [show NV.at mm .mp=AV.mp mm from rfl]
  rw [rS (ks':=[.int .u8 6]) (vs':=[.str ku]) ve rfl rfl]
  rw [rS (ks':=[.int .u8 6,.int .u8 7]) (vs':=[.str ku,.str jH]) gO rfl rfl]
  have e1:cW aR (((aR.new mm (.mp [] [])).set mm (.mp [.int .u8 6] [.str ku])).set mm (.mp [.int .u8 6,.int .u8 7] [.str ku,.str jH])):=((bg sV).set sV.1).set sV.1
  have PH:(((aR.new mm (.mp [] [])).set mm (.mp [.int .u8 6] [.str ku])).set mm (.mp [.int .u8 6,.int .u8 7] [.str ku,.str jH])).mp mm=some ([.int .u8 6,.int .u8 7],[.str ku,.str jH]):=gO
  have h2:=h1.mono e1
  generalize ((aR.new mm (.mp [] [])).set mm _).set mm _=a7 at *
  refine gE n4 m4 h2 (show _=some (.int .u8 k) from rfl) ?_
  have O0:et (some (.i,9)) (some (AV.str [])) (.mp mm) (.int .u8 k) false a7=.val (.str (if k=6 then ku else jH)):=by
   simp only [et,kB,PH]
   rcases aa6 with rfl | rfl <;> rfl
  rw [O0,al]
  refine cT (dK (fun u hu=>by rw [jz] at hu; subst hu; exact hw) (by simp) h2 hb fun bO h3 b3=>gE n4 m4 h3 rfl ?_)
  refine qW hn h3 b3 fun cG h4 _=>ak.mk (hk _ (up _ _ ?_))
  rw [e]; simpa [Tre.text,Tre.n,Tre.m] using h4
 have word:∀ w:aK,w ≠ []->(Tre.mk k x nn m a []).pr=[w].map aC++[]->(ar (some (9,1)) (some [AV.str []]) 1 false [(0,(AV.str w))]).wp K aR (fun v53 U=>ae K 231 [.box b 0,v53] U (ag (fun mJ U=>ak R (AV.aH []) U) (aa R))) (aa R):=by
  intro w hw e
  rw [e] at hb
  refine cT (dK (rest:=[]) (fun u hu=>by rw [jz] at hu; subst hu; exact hw) (by simp) h1 hb fun bO h3 _=>ak.mk (hk _ (up _ _ ?_)))
  rw [e,gy]; exact h3
 rw [br,al]
 rcases aa6 with rfl | rfl
 . simp only [du,bf,gR,aN,cx]
   refine kJ (fK (h1.fr.aX n4 m4) rfl ?_)
   rw [br,aJ]
   simp only [aM,if_true,al]
   refine gZ (fun ug=>?_) fun ug=>?_
   . have ug:nn=1:=ug
     exact word sO (by decide) (by rw [Tre.fi]; simp [bw,ug])
   . have ug:¬ nn=1:=ug
     refine gE n4 m4 h1 (show _=some (.int .u8 6) from rfl) ?_
     rw [br,al]
     simp only [du,bf,gR,aN,cx]
     refine kJ (fK (h1.fr.aX n4 m4) rfl ?_)
     rw [br,aJ]
     simp only [aM,if_true,al]
     refine gZ (fun Bc=>?_) fun Bc=>?_
     . have Bc:nn=2:=Bc
       exact word ow (by decide) (by rw [Tre.fi]; simp [bw,Bc])
     . have Bc:¬ nn=2:=Bc
       exact big fun y hy=>by rw [<- hy,Tre.fi]; simp [bw,ug,Bc]
 . simp only [show decide ((7:Int)=6)=false from rfl,bf,show (false == true)=false from rfl,aN,cF,aM,bU,if_false,al]
   refine dC (gE n4 m4 h1 (show _=some (.int .u8 7) from rfl) ?_)
   rw [br,al]
   simp only [show decide ((7:Int)=6)=false from rfl,bf,show (false == true)=false from rfl,aN,cF,aM,bU,if_false,al]
   refine dC (big fun y hy=>by rw [<- hy,Tre.fi]; simp [bw])
end
end Go.Rip
namespace Go.Rip
open Go.Proofs Go.RowKit
section
variable {b n:Nat} {U aq aR ad:St} {v:AV} {bp l rest:List Tx} {L:List Nd} {t:Tre} {x:aK} {nn m a:Int} {pl:List Nat}
def Bt (k:Int):aK:=if k=2 then dI else if k=3 then ga else eg
theorem EY {R:cR->St->Prop} {k z:Int} {ks:List Tre} {vk:AV} {rest:List Tx} (Ff:k=2\/k=3\/k=4) (h:PS b v aq bp U) (hb:(bp++([Bt k].map aC++(eF x::rest))).length <= NT) (hk:∀ l ad,PS b v aq (bp++l) ad->(Tre.mk k x nn m a ks).pr=l->R (.ret (.aH [])) ad)
 (key:∀ b4 aR a7,b4 ≠ b->aR.box b4=some (y9 (.mk k x nn m a ks) z)->PS b v aR (bp++[Bt k].map aC++[eF x]) a7->(bp++[Bt k].map aC++[eF x]++rest).length <= NT->(∀ l ad,PS b v aR l ad->PS b v aq l ad) ->
   (jR 1 (fun v0 U =>
     (ar (some (9,1)) (some [AV.str []]) 1 false [(0,(AV.str cH))]).wp K U (fun nK U =>
     ae K 231 [v0,nK] U (ag (fun xd U =>
     ak R (AV.aH []) U) (aa R))) (aa R)) fun j =>
   (af (some 0) (.box b4 0)).wp K a7 (fun da U =>
   (aj (some (false,1)) da U).wp K U (fun v20 U =>
   (ax .eql (BT.mk false false false none false) true v20 (AV.int .u8 2)).wp K U (fun v21 U =>
   aw v21 (
    (ar (some (9,1)) (some [AV.str []]) 1 false [(0,(AV.str ez))]).wp K U (fun dZ U =>
    ae K 231 [.box b 0,dZ] U (ag (fun v24 U =>
    (aL (some (3,1)) none vk (AV.int .i64 0)).wp K U (fun dW U =>
    (aj (some (false,1)) dW U).wp K U (fun v28 U =>
    ae K 123 [.box b 0,v28] U (ag (fun ej U =>
    j (.box b 0) U) (aa R))) (aa R)) (aa R)) (aa R))) (aa R)) (
    (cw (some false) vk).wp K U (fun v31 U =>
    (ax .sub (BT.mk false false false none false) true v31 (AV.int .i64 2)).wp K U (fun fI U =>
    (ar (some (9,1)) (some [AV.str []]) 1 false [(0,(AV.str cP))]).wp K U (fun ic U =>
    ae K 231 [.box b 0,ic] U (ag (fun hU U =>
    (fG false (some (3,1)) vk none (some fI)).wp K U (fun lN U =>
    ae K 233 [.box b 0,lN] U (ag (fun v40 U =>
    (ar (some (9,1)) (some [AV.str []]) 2 false [(0,(AV.str cC)),(1,(AV.str ez))]).wp K U (fun lO U =>
    ae K 231 [.box b 0,lO] U (ag (fun iW U =>
    (aL (some (3,1)) none vk fI).wp K U (fun nB U =>
    (aj (some (false,1)) nB U).wp K U (fun qY U =>
    ae K 123 [.box b 0,qY] U (ag (fun v49 U =>
    (ar (some (9,1)) (some [AV.str []]) 1 false [(0,(AV.str gY))]).wp K U (fun v51 U =>
    ae K 231 [.box b 0,v51] U (ag (fun o0 U =>
    (ax .add (BT.mk false false false none false) true fI (AV.int .i64 1)).wp K U (fun qg U =>
    (aL (some (3,1)) none vk qg).wp K U (fun qZ U =>
    (aj (some (false,1)) qZ U).wp K U (fun o4 U =>
    ae K 123 [.box b 0,o4] U (ag (fun v59 U =>
    j (.box b 0) U) (aa R))) (aa R)) (aa R)) (aa R)) (aa R))) (aa R)) (aa R))) (aa R)) (aa R)) (aa R))) (aa R)) (aa R))) (aa R)) (aa R))) (aa R)) (aa R)) (aa R))) (aa R)) (aa R)) (aa R))):ae K 180 [.box b 0,.agg (y9 (.mk k x nn m a ks) z),vk] U R:=by
 have hw:Bt k ≠ []:=by unfold Bt; split; decide; split <;> decide
 refine RH ?_
 unfold RG
 refine fV h fun b4 aR n4 m4 h1 up=>?_
 rw [kO]
 intro mm sV
 rw [show NV.at mm .mp=AV.mp mm from rfl]
 rw [rS (ks':=[.int .u8 2]) (vs':=[.str dI]) ve rfl rfl]
 rw [rS (ks':=[.int .u8 2,.int .u8 3]) (vs':=[.str dI,.str ga]) gO rfl rfl]
 rw [rS (ks':=[.int .u8 2,.int .u8 3,.int .u8 4]) (vs':=[.str dI,.str ga,.str eg]) gO rfl rfl]
 have e1:cW aR ((((aR.new mm (.mp [] [])).set mm (.mp [.int .u8 2] [.str dI])).set mm (.mp [.int .u8 2,.int .u8 3] [.str dI,.str ga])).set mm (.mp [.int .u8 2,.int .u8 3,.int .u8 4] [.str dI,.str ga,.str eg])) :=
  (((bg sV).set sV.1).set sV.1).set sV.1
 have PH:((((aR.new mm (.mp [] [])).set mm (.mp [.int .u8 2] [.str dI])).set mm (.mp [.int .u8 2,.int .u8 3] [.str dI,.str ga])).set mm (.mp [.int .u8 2,.int .u8 3,.int .u8 4] [.str dI,.str ga,.str eg])).mp mm=some ([.int .u8 2,.int .u8 3,.int .u8 4],[.str dI,.str ga,.str eg]):=gO
 have h2:=h1.mono e1
 generalize (((aR.new mm (.mp [] [])).set mm _).set mm _).set mm _=a7 at *
 refine gE n4 m4 h2 (show _=some (.int .u8 k) from rfl) ?_
 have O0:et (some (.i,9)) (some (AV.str [])) (.mp mm) (.int .u8 k) false a7=.val (.str (Bt k)):=by
  simp only [et,kB,PH]
  rcases Ff with rfl | rfl | rfl <;> rfl
 rw [O0,al]
 refine cT (dK (fun u hu=>by rw [jz] at hu; subst hu; exact hw) (by simp) h2 hb fun bO h3 b3=>gE n4 m4 h3 rfl ?_)
 refine nv h3 b3 fun cG h4 qH=>?_
 exact key b4 aR cG n4 m4 h4 qH up
theorem JR {A:Tre} (hp:fE v L pl [A]):jx 180 v (.mk 2 x nn m a [A]) pl:=by
 intro b aq U bp R z vk dG h hb hk
 have e:(Tre.mk 2 x nn m a [A]).pr=[Bt 2].map aC++(eF x::([ez].map aC++(A.pr++([cH].map aC++[])))):=by rw [Tre.fi]; simp [bw,Bt]
 rw [e] at hb
 obtain ⟨p,rfl,g,_⟩:=hp.one
 refine EY (k:=2) (.inl rfl) h hb (fun l ad h' e'=>hk ad (by rw [e']; exact h')) fun b4 aR a7 n4 m4 h2 b2 up=>?_
 intro j hj
 refine gE n4 m4 h2 (show _=some (.int .u8 2) from rfl) (p7 rfl ?_)
 refine cT (dK (by decide) (by decide) h2 b2 fun bO h3 b3=>?_)
 refine kZ (i:=0) dG rfl ?_
 refine sA g h3 b3 fun cG h4 qH=>hj _ _ ?_
 refine cT (dK (by decide) (by decide) h4 qH fun di h5 _=>ak.mk (hk _ (up _ _ ?_)))
 rw [e]; simpa using h5
theorem Tu {k:Int} {ps:List Tre} {B C:Tre} (afh:k=3\/k=4) (CO:ps.length <= 900) (hp:fE v L pl (ps++[B,C])):jx 180 v (.mk k x nn m a (ps++[B,C])) pl:=by
 intro b aq U bp R z vk dG h hb hk
 have e:(Tre.mk k x nn m a (ps++[B,C])).pr=[Bt k].map aC++(eF x::([cP].map aC++(dz cV (ps.map Tre.pr)++([cC,ez].map aC++(B.pr++([gY].map aC++(C.pr++([cH].map aC++[])))))))):=by
  rw [Tre.fi]
  have e1:(ps++[B,C]).map (fun t=>(t.kind,t.pr))=(ps.map fun t=>(t.kind,t.pr))++[(B.kind,B.pr),(C.kind,C.pr)]:=by simp
  rw [e1]
  generalize hq:ps.map (fun t=>(t.kind,t.pr))=q
  have e3:ps.map Tre.pr=q.map (·.2):=by rw [<- hq,List.map_map]; rfl
  rw [e3]
  have el:(q++[(B.kind,B.pr),(C.kind,C.pr)]).length - 2=q.length:=by simp
  have el1:(q++[(B.kind,B.pr),(C.kind,C.pr)]).length - 1=q.length+1:=by simp
  rcases afh with rfl | rfl <;> simp [bw,Bt,el,el1,pT]
 rw [e] at hb
 have hlen:=hp.len
 rw [df,gU,List.length_singleton] at hlen
 obtain ⟨Bl,wG⟩:=hp.app
 obtain ⟨p,q,Fk,⟨gB,_⟩,gC,_⟩:=wG.two
 have cn:pl ≠ []:=fun e=>by rw [e] at hlen; simp at hlen
 have hpB:pl[ps.length]?=some p:=by
  have:(pl.drop ps.length)[0]?=some p:=by rw [Fk]; rfl
  simpa using this
 have hpC:pl[ps.length+1]?=some q:=by
  have:(pl.drop ps.length)[1]?=some q:=by rw [Fk]; rfl
  simpa using this
 refine EY (k:=k) (by omega) h hb (fun l ad h' e'=>hk ad (by rw [e']; exact h')) fun b4 aR a7 n4 m4 h2 b2 up=>?_
 intro j hj
 refine gE n4 m4 h2 (show _=some (.int .u8 k) from rfl) (fU (by omega) ?_)
 rw [dG.len,al,GR]
 refine ⟨bI (by omega) (by omega),?_⟩
 have xy:((pl.length:Int) - 2)=((ps.length:Nat):Int):=by omega
 rw [xy]
 refine cT (dK (by decide) (by decide) h2 b2 fun bO h3 b3=>?_)
 refine nX (i:=0) (j:=ps.length) dG cn (by omega) (by omega) (jX _ _ _) rfl fun c=>?_
 rw [eD]
 refine AL (.inr ⟨_,rfl⟩) Bl (by omega) h3 b3 fun cG h4 qH=>?_
 refine pt (dK (by decide) (by decide) h4 qH fun di h5 b5=>?_)
 refine kZ dG hpB ?_
 refine sA gB h5 b5 fun mK h6 b6=>?_
 refine cT (dK (by decide) (by decide) h6 b6 fun jo h7 b7=>?_)
 rw [dN]
 refine ⟨bI (by omega) (by omega),?_⟩
 have wA:((ps.length:Nat):Int)+1=((ps.length+1:Nat):Int):=by omega
 rw [wA]
 refine kZ dG hpC ?_
 refine sA gC h7 b7 fun vA h8 b8=>hj _ _ ?_
 refine cT (dK (by decide) (by decide) h8 b8 fun tb h9 _=>ak.mk (hk _ (up _ _ ?_)))
 rw [e]; simpa using h9
theorem Tv {A:Tre} (hv:eJ v L.length (bK L)) (hp:fE v L pl [A]) (hA:cq A.kind=true):jx 183 v (.mk 19 x nn m a [A]) pl:=by
 intro b aq U bp R z vk dG h hb hk
 have e:(Tre.mk 19 x nn m a [A]).pr=[pJ].map aC++(eK A.kind 4 A.pr++[]):=by rw [Tre.fi]; simp [bw]
 rw [e] at hb
 obtain ⟨p,rfl,g,xA,Pd,OZ⟩:=hp.one
 refine F6 ?_
 unfold Jd
 refine fV h fun b4 aR n4 m4 h1 up=>gE n4 m4 h1 (show _=some (.int .u8 19) from rfl) (p7 rfl ?_)
 refine cT (dK (by decide) (by decide) h1 hb fun a7 h2 b2=>?_)
 refine kZ (i:=0) dG rfl ?_
 refine wV (least:=4) hv Pd OZ hA g h2 b2 fun bO h3 _=>ak.mk (hk _ (up _ _ ?_))
 rw [e]; simpa using h3
def qm (lev:Nat):List (List UInt8 × Int):=match opsL.find? fun p=>p.1 == (lev:Int) with | some p=>p.2 | none=>[]
theorem P0 {k:Int} (hk:k ∈ nH):(∀ q ∈ qm (bR k),q.2=k->q=(kN k,k))/\(kN k,k) ∈ qm (bR k)/\(qm (bR k)).Nodup:=by
 simp only [nH,cD,List.not_mem_nil,or_false] at hk
 rcases hk with rfl | rfl | rfl | rfl | rfl | rfl | rfl | rfl <;> decide
theorem Ut {k:Int} (hk:k ∈ nH) (U:St):et (some (.i,185)) (some AV.jE) opsV (.int .i64 (bR k:Nat)) false U=.val (.fY ((qm (bR k)).map fun p=>(ju p).1) ((qm (bR k)).map fun p=>(ju p).2)):=by
 simp only [nH,cD,List.not_mem_nil,or_false] at hk
 rcases hk with rfl | rfl | rfl | rfl | rfl | rfl | rfl | rfl <;> rfl
theorem Fr.iter {o:Nat} {y:List (AV × AV) × Option (AV × AV)} (h:Fr b U ad) (n:o ≠ b) (k:U.iter o=some y):ad.iter o=some y:=by
 cases e:U.live o with
 | none=>simp [St.iter,e] at k
 | some x =>
   have:ad.live o=U.live o:=(h o x n e (by intro t ht; subst ht; simp [St.iter,e] at k)).trans e.symm
   unfold St.iter at k ⊢
   rw [this]; exact k
theorem AY {o c:Nat} {y:List AV} {z:List (AV × AV) × Option (AV × AV)} (h:U.box c=some y) (k:U.iter o=some z):c ≠ o:=by
 rintro rfl
 unfold St.box at h; unfold St.iter at k
 split at h
 . rename_i e; simp [e] at k
 . rename_i e; simp [e] at k
 . cases h
theorem Ko {o c:Nat} {y:Tok} {z:List (AV × AV) × Option (AV × AV)} (h:U.tok c=some y) (k:U.iter o=some z):c ≠ o:=by
 rintro rfl
 unfold St.tok at h; unfold St.iter at k
 split at h
 . rename_i e; simp [e] at k
 . cases h
theorem PS.X6 {o:Nat} {z:List (AV × AV) × Option (AV × AV)} {x:Live} (h:PS b v aq bp U) (hn:aq.live o=none) (ho:U.iter o=some z):PS b v aq bp (U.set o x):=by
 obtain ⟨⟨vl,h1,h2⟩,h3⟩:=h
 refine ⟨⟨vl,by rw [aO (AY h1 ho)]; exact h1,?_⟩,fun c y hc hy ht=>?_⟩
 . refine ⟨?_,h2.z,h2.t,xp _⟩
   rcases h2.g with g | ⟨τ,r1,r2,r3⟩
   . exact .inl g
   . exact .inr ⟨τ,r1,by rw [gX (Ko r2 ho)]; exact r2,r3⟩
 . rw [dR,if_neg (fun e=>by subst e; rw [hn] at hy; cases hy)]
   exact h3 c y hc hy ht
theorem KG {k:Int} {A:Tre} {rs:List Tre} (oT:k ∈ nH) (hrs:(k=25/\rs=[]/\dH nn=true)\/(k ≠ 25/\∃ B,rs=[B]/\cq B.kind=true)) (hv:eJ v L.length (bK L)) (hp:fE v L pl (A::rs)) (hA:cq A.kind=true):jx 183 v (.mk k x nn m a (A::rs)) pl:=by
 intro b aq U bp R z vk dG h hb hk
 obtain ⟨q1,q2,q3⟩:=P0 oT
 have agU:2 <= bR k/\bR k <= 8:=by
  simp only [nH,cD,List.not_mem_nil,or_false] at oT
  rcases oT with rfl | rfl | rfl | rfl | rfl | rfl | rfl | rfl <;> decide
 have hk8:bR k=8 ↔ k=25:=by
  simp only [nH,cD,List.not_mem_nil,or_false] at oT
  rcases oT with rfl | rfl | rfl | rfl | rfl | rfl | rfl | rfl <;> decide
 have hkT:cq k=true:=by
  simp only [nH,cD,List.not_mem_nil,or_false] at oT
  rcases oT with rfl | rfl | rfl | rfl | rfl | rfl | rfl | rfl <;> decide
 have afg:k ≠ 19:=by
  simp only [nH,cD,List.not_mem_nil,or_false] at oT
  omega
 have cn:kN k ≠ []:=by
  simp only [nH,cD,List.not_mem_nil,or_false] at oT
  rcases oT with rfl | rfl | rfl | rfl | rfl | rfl | rfl | rfl <;> decide
 obtain ⟨tl,tC⟩:∃ tl,tl=if k=25 then [jl nn] else match rs with | [B]=>eK B.kind (bR k+1) B.pr | _=>[]:=⟨_,rfl⟩
 have e:(Tre.mk k x nn m a (A::rs)).pr=eK A.kind (if bR k=5 then 6 else bR k) A.pr++([kN k].map aC++tl):=by
  rw [Tre.fi,tC]
  simp only [nH,cD,List.not_mem_nil,or_false] at oT
  rcases hrs with ⟨rfl,rfl,_⟩ | ⟨MD,B,rfl,_⟩
  . simp [bw,bR,kN]
  . rcases oT with rfl | rfl | rfl | rfl | rfl | rfl | rfl | rfl
    all_goals first
     | exact absurd rfl MD
     | simp [bw,bR]
 rw [e] at hb
 obtain ⟨p0,pr,rfl⟩:∃ p r,pl=p::r:=by
  have:=hp.len
  cases pl with
  | nil=>simp at this
  | cons p r=>exact ⟨p,r,rfl⟩
 obtain ⟨gA,xA,Pd,OZ⟩:=hp.nd 0 p0 A rfl rfl
 refine F6 ?_
 unfold Jd
 refine fV h fun b4 aR n4 m4 h1 up=>gE n4 m4 h1 (show _=some (.int .u8 k) from rfl) (fU afg ?_)
 refine gE n4 m4 h1 (show _=some (.int .u8 k) from rfl) ?_
 obtain ⟨vl,iD⟩:=h1.ld
 refine zD (l:=[]) iD ?_
 rw [bB,FF hkT]
 intro j hj
 have body:j (.box b 0) vk (.box b4 0) (.int .i64 (bR k:Nat)) (.int .i64 ((if bR k=5 then 6 else bR k:Nat):Int)) aR:=by
  refine hj _ _ _ _ _ _ ?_
  refine kZ (i:=0) dG rfl ?_
  refine wV hv Pd OZ hA gA h1 hb fun a7 h2 b2=>?_
  obtain ⟨vl2,afA⟩:=h2.ld
  have m4:=h2.fr.aX n4 m4
  have up:∀ l ad,PS b v a7 l ad->PS b v aq l ad:=fun l ad h'=>up l ad (h2.app h')
  have h2:=h2.Ds
  simp only [bS,al]
  refine gj (dY afA rfl ?_)
  rw [Ut oT,al]
  have T9:∀ (l:List (List UInt8 × Int)) fk,uF (some fk) (.fY (l.map fun p=>(ju p).1) (l.map fun p=>(ju p).2))=.new .it none (.iter (l.map ju) none):=fun l fk=>by rw [<- zip_map]; rfl
  rw [T9,kO]
  intro o ho
  rw [show NV.at o .it=AV.it o from rfl]
  have h3:=h2.mono (bg ho (x:=.iter ((qm (bR k)).map ju) none))
  have it3:(a7.new o (.iter ((qm (bR k)).map ju) none)).iter o=some ((qm (bR k)).map ju,none):=by simp
  have fo:a7.live o=none:=ho.1
  generalize ru:bp++eK A.kind (if bR k=5 then 6 else bR k) A.pr=tk at *
  refine ⟨fun mm w0 w2 w4 w6 w42 ad=>∃ (l2 kj:List (List UInt8 × Int)) (c2:Option (AV × AV)),w0=.box b 0/\w2=vk/\w4=.box b4 0/\w6=.int .i64 (bR k:Nat)/\w42=.it o/\ad.iter o=some (l2.map ju,c2)/\mm=l2.length/\(kj++l2).Perm (qm (bR k))/\PS b v a7 (tk++if (kN k,k) ∈ kj then [aC (kN k)] else []) ad,
   ⟨_,qm (bR k),[],none,rfl,rfl,rfl,rfl,rfl,it3,rfl,by simp,by simpa using h3⟩,?_⟩
  rintro mm w0 w2 w4 w6 w42 bO ⟨l2,kj,c2,rfl,rfl,rfl,rfl,rfl,hit,rfl,HZ,h4⟩
  refine Eh hit (fun hl=>?_) (fun p l3 mZ=>?_)
  . subst hl
    rw [gy] at HZ
    rw [if_pos (HZ.mem_iff.2 q2)] at h4
    have qH:(tk++[aC (kN k)]++tl).length <= NT:=by simpa using b2
    simp only [bu,eD,dF,al,bm]
    rcases hrs with ⟨wv,_,hnn⟩ | ⟨MD,B,hB,hBT⟩
    . have h8:=hk8.2 wv
      refine p7 (by omega) (gE n4 m4 h4 (show _=some (.int .i64 nn) from rfl) ?_)
      rw [if_pos wv] at tC
      rw [tC] at qH
      refine qW hnn h4 qH fun di h5 _=>ak.mk (hk _ (up _ _ ?_))
      rw [e,tC,<- gn,ru,<- gn]; exact h5
    . have h8:bR k ≠ 8:=fun e=>MD (hk8.1 e)
      subst hB
      rw [if_neg MD] at tC
      simp only at tC
      refine fU (by omega) ?_
      obtain ⟨q0,hq0,gB,xB,hxB,hkB⟩:∃ q0,(p0::pr)[1]?=some q0/\qt v q0 B/\∃ x,L[q0]?=some x/\x.kind=B.kind:=by
       have:=hp.len
       match pr,this with
       | [q0],_=>exact ⟨q0,rfl,hp.nd 1 q0 B rfl rfl⟩
      refine kZ (i:=1) dG hq0 ?_
      rw [dN]
      refine ⟨bI (by omega) (by omega),?_⟩
      have wA:((bR k:Nat):Int)+1=((bR k+1:Nat):Int):=by omega
      rw [wA]
      rw [tC] at qH
      refine wV (rest:=[]) hv hxB hkB hBT gB h4 (by simpa using qH) fun di h5 _=>ak.mk (hk _ (up _ _ ?_))
      rw [e,tC,<- gn,ru,<- gn]; exact h5
  . have he:mX (.it o) (bO.set o (.iter (l3.map ju) (some (ju p))))=.val (.aH [(ju p).1,(ju p).2]):=by simp [mX]
    have h5:=h4.X6 (x:=.iter (l3.map ju) (some (ju p))) fo hit
    have it5:(bO.set o (.iter (l3.map ju) (some (ju p)))).iter o=some (l3.map ju,some (ju p)):=by simp
    have afo:o ≠ b:=fun e=>by
     subst e
     obtain ⟨uM,afz⟩:=h4.ld
     exact AY afz hit rfl
    have GD:(kj++[p]++l3).Perm (qm (bR k)):=by
     rw [gn]
     exact (List.Perm.append_left kj mZ).trans HZ
    have hlen:l3.length < l2.length:=by rw [<- mZ.length_eq]; simp
    have hnd:(kj++[p]++l3).Nodup:=GD.nodup_iff.2 q3
    have afr:p ∈ qm (bR k):=GD.mem_iff.1 (by simp)
    simp only [bu,eD,dF,al,bE]
    rw [he]
    simp only [bu,eD,dF,al,List.drop_succ_cons]
    refine gE n4 m4 h5 (show _=some (.int .u8 k) from rfl) ?_
    rw [show (ju p).2=.int .u8 p.2 from rfl,show (ju p).1=.str p.1 from rfl,br,al]
    refine gZ (fun hpk=>?_) fun hpk=>?_
    . have Fk:=q1 p afr hpk
      have HW:(kN k,k) ∉ kj:=fun hm=>by
       rw [<- Fk] at hm
       rw [List.nodup_append,List.nodup_append] at hnd
       exact hnd.1.2.2 p hm p (by simp) rfl
      rw [if_neg HW,gy] at h5
      have Bl:p.1=kN k:=by rw [Fk]
      rw [Bl]
      refine cT (dK (ws:=[kN k]) (rest:=tl) (fun u hu=>by rw [jz] at hu; subst hu; exact cn) (by simp) h5.Ds (by simpa using b2) fun mK h6 _=>?_)
      refine ⟨l3.length,hlen,l3,kj++[p],some (ju p),rfl,rfl,rfl,rfl,rfl,h6.fr.iter afo it5,rfl,GD,?_⟩
      rw [if_pos (by rw [<- Fk]; simp)]
      exact h5.app h6
    . refine ⟨l3.length,hlen,l3,kj++[p],some (ju p),rfl,rfl,rfl,rfl,rfl,it5,rfl,GD,?_⟩
      have:((kN k,k) ∈ kj++[p]) ↔ (kN k,k) ∈ kj:=by
       simp only [fS,jz]
       exact ⟨fun h=>h.resolve_right fun e=>hpk (by rw [<- e]),.inl⟩
      have e3:(if (kN k,k) ∈ kj++[p] then [aC (kN k)] else [])=if (kN k,k) ∈ kj then [aC (kN k)] else []:=by
       by_cases hm:(kN k,k) ∈ kj
       . rw [if_pos hm,if_pos (this.2 hm)]
       . rw [if_neg hm,if_neg fun h=>hm (this.1 h)]
      rw [e3]
      exact h5
 refine AR (gZ (fun h5=>?_) fun h5=>?_)
 . have h5':bR k=5:=by omega
   rw [dN]
   refine ⟨bI (by omega) (by omega),?_⟩
   rw [if_pos h5'] at body
   have:((bR k:Nat):Int)+1=((6:Nat):Int):=by omega
   rw [this]; exact body
 . have h5':¬ bR k=5:=by omega
   rw [if_neg h5'] at body
   exact body
end
end Go.Rip
namespace Go.Rip
open Go.Proofs Go.RowKit
theorem BD {v:AV} {l:List Nd} {n:Nat} {en:Int} {bn be bt:Nat} {U:St} {B:AV->Qr->St->Prop} {Kn:St->Prop} {Ke:Nat->St->Prop} {Kr:St->Prop} {Kp:AV->St->Prop} (I:Nat->List Nat->St->Prop) (J:Nat->St->Prop)
 (hv:eJ v l.length (bK l)) (hn:n < l.length) (hlen:l.length <= 100000) (hen:en <= l.length)
 (B0:∀ o ks U,I o ks U->U.box bn=some [.int .i64 (n:Nat)]/\U.box be=some [.int .i64 en]/\U.box bt=some [v])
 (CW:∀ o ks U L L',I o ks U->U.loop o=some L->I o ks (U.set o (.loop L')))
 (hJ:∀ o U L L',J o U->U.loop o=some L->J o (U.set o (.loop L')))
 (body:∀ (ks:List Nat) (jk:Nat) (x:Nd) (aR:St) (o:Nat) (L1:fF) (q:Qr),I o ks aR->l[jk]?=some x->(jk:Int) < en->0 < x.size->n < jk->ks.length < l.length->(∃ r,fj l en l.length (n+1)=ks++jk::r)->aR.loop o=some L1 ->
   (∀ a7,I o (ks++[jk]) a7->x.size <= 100000->a7.loop o=some L1->q.n a7)->(∀ a7,J o a7->a7.loop o=some L1->q.r a7)->B (.int .i64 (jk:Nat)) q aR)
 (fin:∀ ks aR o L,ks=fj l en l.length (n+1)->I o ks aR->aR.loop o=some L->Kn (aR.del o))
 (TC:∀ aR o L,J o aR->aR.loop o=some L->Kr (aR.del o))
 (h0:∀ o L,U.dD o->I o [] (U.new o (.loop L))):rG K 1 (.func (.func 155) [] [.box bn 0,.box be 0,.box bt 0]) U (fun v q U=>q.Dd (fun U=>B v q U) U) Kn Ke Kr Kp:=by
 refine ⟨by kernel_rfl,fun o L ho HE ON Y=>?_⟩
 have I1:=h0 o L ho
 have L8:=vM (U:=U) (b:=o) (L:=L)
 generalize U.new o (.loop L)=aR at *
 refine F4 ?_
 unfold Jb
 rw [gz (B0 _ _ _ I1).1,eD,bA,dN]
 refine ⟨bI (by omega) (by omega),?_⟩
 refine ⟨fun m v0 v2 v3 v5 ad=>∃ ks f p,m=l.length - p/\v0=.rZ o/\v2=.box be 0/\v3=.box bt 0/\v5=.int .i64 (p:Nat)/\n < p/\p <= 300000/\l.length - p <= f/\ks++fj l en f p=fj l en l.length (n+1)/\I o ks ad/\∃ L1,ad.loop o=some L1/\L1.st .ready none=L/\L1.state=.ready/\L1.fZ=none,
  ⟨_,[],l.length,n+1,rfl,rfl,rfl,rfl,by simp,by omega,by omega,by omega,rfl,I1,L,L8,by cases L; simp_all [fF.st],HE,ON⟩,?_⟩
 clear I1 L8
 rintro m v0 v2 v3 v5 a7 ⟨ks,f,p,rfl,rfl,rfl,rfl,rfl,hnp,hp3,hf,iC,I2,L1,js,fT,Bn,Bm⟩
 obtain ⟨k1,k2,k3⟩:=B0 _ _ _ I2
 rw [gz k2,eD,bA]
 simp only [cb,al,bf,aN]
 have stop:fj l en f p=[]->ak (I6 o Kn Ke Kr Kp) (.aH []) a7:=fun h=>by
  rw [h,gy] at iC
  refine ak.mk ⟨L1,js,by rw [Bn]; simp,?_⟩
  rw [Bm]
  exact fin ks a7 o L1 iC I2 js
 by_cases aQ:(p:Int) < en
 . have mZ:p < l.length:=by omega
   obtain ⟨x,hx⟩:∃ x,l[p]?=some x:=⟨l[p],by simp [mZ]⟩
   cases f with
   | zero=>omega
   | succ f =>
   have wF:fj l en (f+1) p=if 0 < x.size then p::fj l en f (p+x.size.toNat) else []:=by
    simp only [fj,hx,aQ,true_and]
   simp only [aQ,du,gR,cx,aJ,aZ,cU,su k3,eD,jF,mj]
   refine Cb hv hx fun r=>?_
   simp only [dJ,aJ,mj,db,ix,List.drop,sZ,jF,eY,aM,if_true,al,bY]
   refine ⟨fun hs=>?_,fun hs=>?_⟩
   . rw [if_pos hs] at wF
     simp only [iN,yx]
     refine Y _ _ _ L1 rfl js fT ?_
     refine ⟨L1,js,Bn,?_⟩
     have I3:=CW o _ _ L1 { L1 with state:=.busy } I2 js
     have sU:ks.length < l.length:=by
      have:=xL l en l.length (n+1)
      rw [<- iC,wF] at this
      simp at this; omega
     refine body ks p x _ o { L1 with state:=.busy } _ I3 hx aQ hs hnp sU ⟨_,by rw [<- iC,wF]⟩ fQ (fun bO I4 rW tu=>?_) fun bO hJ3 tu=>?_
     . refine ⟨_,tu,?_⟩
       have I5:=CW o _ _ _ { L1 with state:=.ready,fZ:=none } I4 tu
       obtain ⟨j1,j2,j3⟩:=B0 _ _ _ I5
       simp only [bB,ey,al,c8,bm,aZ,cU]
       rw [gz j3,eD,bA]
       refine ED hv hx fun r=>?_
       simp only [dJ,al,db,ix,List.drop,ox,bA,dN]
       refine ⟨bI (by omega) (by omega),_,?_,ks++[p],f,p+x.size.toNat,rfl,rfl,rfl,rfl,?_,by omega,by omega,by omega,?_,I5,_,fQ,by rw [<- fT]; rfl,rfl,rfl⟩
       . omega
       . congr 1; omega
       . rw [<- iC,wF]; simp
     . refine ⟨_,tu,?_⟩
       simp only [bB,ey,al,eQ,bE]
       refine ak.mk ⟨_,fQ,by simp,?_⟩
       exact TC _ o _ (hJ o _ _ _ hJ3 tu) fQ
   . rw [if_neg hs] at wF
     exact stop wF
 . simp only [aQ,eB,show (false == true)=false from rfl,cF,aM,bU,if_false,al,bm]
   refine stop ?_
   cases f with
   | zero=>rfl
   | succ f =>
     simp only [fj]
     split
     . rw [if_neg (fun h=>aQ h.1)]
     . rfl
theorem Hy:∀ {ss:List lh} {ks:List Int},dQ ks ss=true->∀ k ∈ ks,∃ s ∈ ss,s.c.is k=true
 | [],ks,h,k,hk=>by
   have:ks.isEmpty=true:=h
   rw [List.isEmpty_iff] at this
   rw [this] at hk; cases hk
 | s::ss,ks,h,k,hk=>by
   rw [dQ] at h
   split at h
   . cases h
   . rename_i hm
     have si:(ks.take (min (ks.length - (ss.map (·.least)).sum) s.nV)).takeWhile s.c.is <+: ks:=(vQ _).trans (List.take_prefix _ _)
     obtain ⟨r,hr⟩:=si
     generalize hq:(ks.take (min (ks.length - (ss.map (·.least)).sum) s.nV)).takeWhile s.c.is=q at *
     have cm:∀ k ∈ q,s.c.is k=true:=fun k hk=>by
      rw [<- hq] at hk
      have key:∀ l:List Int,k ∈ l.takeWhile s.c.is->s.c.is k=true:=fun l=>by
       induction l with
       | nil=>simp
       | cons c l ih =>
         simp only [oN]
         split
         . rename_i hc
           intro h
           rcases cD.1 h with rfl | h
           . exact hc
           . exact ih h
         . simp
      exact key _ hk
     rw [<- hr] at h hk
     rw [List.drop_left] at h
     rcases fS.1 hk with hk | hk
     . exact ⟨s,by simp,cm k hk⟩
     . obtain ⟨s',h1,h2⟩:=Hy h k hk
       exact ⟨s',by simp [h1],h2⟩
theorem Ug {c:Prop} [Decidable c] {a f:gd} {B:Option gd} {G:Prop} (h:(if c then some a else B)=some f) (h1:a=f->G) (h2:B=some f->G):G:=by
 split at h
 . exact h1 (Option.some.inj h)
 . exact h2 h
theorem TJ {k:Int} {f:gd} (h:bC k=some f):∀ s ∈ f.kids,s.c.is 1=false:=by
 unfold bC at h
 repeat' (refine Ug h (fun h=>?_) (fun h=>?_))
 all_goals first
  | (subst h; simp [iK.is,iQ,pC,oD,cq,ng]; done)
  | cases h
theorem Ea {t:Tre} (h:t.ok=true):∀ c ∈ t.kids,c.kind ≠ 1/\c.ok=true:=by
 cases t with
 | mk k x n m a ks =>
   obtain ⟨f,hf,_,h2,h3⟩:=Tre.rC h
   intro c hc
   refine ⟨fun e=>?_,h3 c hc⟩
   obtain ⟨s,hs,hk⟩:=Hy h2 c.kind (List.mem_map_of_mem hc)
   rw [e,TJ hf s hs] at hk
   cases hk
def sg (k:Int):FuncId:=if iQ k=true then 180 else if pC k=true then 182 else if 17 <= k/\k <= 25 then 183 else if 9 <= k/\k <= 16 then 184 else if cq k=true then 186 else 187
section
variable {b n:Nat} {U aq aR ad:St} {v:AV} {bp l rest:List Tx} {L:List Nd} {t:Tre}
theorem PS.iH {o:Nat} {z:fF} {a7:St} (h:PS b v aq bp U) (hn:aq.live o=none) (ho:U.loop o=some z) (hs:∀ c,c ≠ o->a7.live c=U.live c):PS b v aq bp a7:=by
 obtain ⟨⟨vl,h1,h2⟩,h3⟩:=h
 refine ⟨⟨vl,by rw [dy (hs _ (bT h1 ho))]; exact h1,?_⟩,fun c y hc hy ht=>?_⟩
 . refine ⟨?_,h2.z,h2.t,xp _⟩
   rcases h2.g with g | ⟨τ,r1,r2,r3⟩
   . exact .inl g
   . exact .inr ⟨τ,r1,by rw [kW (hs _ (sL r2 ho))]; exact r2,r3⟩
 . rw [hs c fun e=>by subst e; rw [hn] at hy; cases hy]
   exact h3 c y hc hy ht
theorem PS.other {vk:AV} {e sz m:Nat} {lk:List AV} (h:PS b v aq bp U) (he:e ≠ 51) (g:gk aq U vk e sz m lk) (k:∀ c x,(∀ n l,vk ≠ .vec n (.own c) l)->U.live c=some x->ad.live c=some x):PS b v aq bp ad:=by
 obtain ⟨⟨vl,h1,h2⟩,h3⟩:=h
 refine ⟨⟨vl,(nG g.g k).1 h1,?_⟩,fun c y hc hy ht=>?_⟩
 . refine ⟨?_,h2.z,h2.t,xp _⟩
   rcases h2.g with g' | ⟨τ,r1,r2,r3⟩
   . exact .inl g'
   . refine .inr ⟨τ,r1,?_,r3⟩
     cases e':U.live τ with
     | none=>simp [St.tok,e'] at r2
     | some y =>
       have:=k τ y (fun n' l' hv=>by
        rcases g.g with ⟨_,_,g⟩ | ⟨uO,g,ht,_⟩
        . rw [g] at hv; cases hv
        . rw [g] at hv; cases hv
          rw [r2] at ht
          simp only [ja,Tok.mk.injEq] at ht
          exact he ht.2.1.symm) e'
       rw [kW (this.trans e'.symm)]; exact r2
 . refine k c y (fun n' l' hv=>?_) (h3 c y hc hy ht)
   rw [g.t _ _ _ hv] at hy; cases hy
end
end Go.Rip
namespace Go.Rip
open Go.Proofs Go.RowKit
section
variable {b n:Nat} {U aq aR ad:St} {v:AV} {bp l rest:List Tx} {L:List Nd} {t:Tre}
theorem PS.cg {c:Nat} {y z:List AV} (h:PS b v aq bp U) (nc:c ≠ b) (hn:aq.live c=none) (hc:U.box c=some y):PS b v aq bp (U.set c (.box z)):=by
 obtain ⟨⟨vl,h1,h2⟩,h3⟩:=h
 refine ⟨⟨vl,by rw [aO nc.symm]; exact h1,?_⟩,fun c' y' uZ C1 ht=>?_⟩
 . refine ⟨?_,h2.z,h2.t,xp _⟩
   rcases h2.g with g | ⟨τ,r1,r2,r3⟩
   . exact .inl g
   . exact .inr ⟨τ,r1,by rw [gX (eV hc r2).symm]; exact r2,r3⟩
 . rw [dR,if_neg fun e=>by subst e; rw [hn] at C1; cases C1]
   exact h3 c' y' uZ C1 ht
theorem Yi {s:Tre} {pl:List Nat} (hv:Sl v L) (hL:L.length <= 1000) (hz:∀ (i:Nat) (y:Nd),L[i]?=some y->y.size <= 100000) (hs:gm L n s) (mZ:pl=eu (n+1) s.kids) (hf:jx (sg s.kind) v s pl):qt v n s:=by
 intro b aq U bp R h hb hk
 obtain ⟨x,hx,uq,Wr,hxt,hxn,hxm,K5⟩:=hs.qG
 have hle:=hs.le
 have rq:=s.ef
 have aaV:db x=y9 s x.size:=by unfold db y9; rw [uq,hxt,hxn,hxm,K5]
 have KT:fj L ((n:Int)+x.size) L.length (n+1)=pl:=by
  rw [mZ,Wr]; exact xM hs
 refine QK ?_
 unfold QJ
 obtain ⟨vl,iD⟩:=h.ld
 simp only [bS,al]
 refine gj (gj (gj (dY iD rfl ?_)))
 refine ED hv.s hx fun r=>?_
 rw [tZ]
 refine ⟨by simp [db],?_⟩
 rw [show (db x++r).take 6=db x from rfl,cz]
 intro b4 gN
 have m4:(U.new b4 (.box [AV.int .u8 0,AV.str [],AV.int .i64 0,AV.int .i64 0,AV.int .i64 0,AV.int .i64 0])).box b4=some [AV.int .u8 0,AV.str [],AV.int .i64 0,AV.int .i64 0,AV.int .i64 0,AV.int .i64 0]:=aG
 rw [cI m4]
 refine ⟨⟨rfl,rfl,by simp⟩,?_⟩
 rw [show ay [AV.int .u8 0,AV.str [],AV.int .i64 0,AV.int .i64 0,AV.int .i64 0,AV.int .i64 0] 0 (au (.agg (db x)))=db x from rfl]
 have e4:cW U ((U.new b4 (.box [AV.int .u8 0,AV.str [],AV.int .i64 0,AV.int .i64 0,AV.int .i64 0,AV.int .i64 0])).set b4 (.box (db x))):=(bg gN).set gN.1
 have m4:((U.new b4 (.box [AV.int .u8 0,AV.str [],AV.int .i64 0,AV.int .i64 0,AV.int .i64 0,AV.int .i64 0])).set b4 (.box (db x))).box b4=some (db x):=aV
 have h4:=h.mono e4
 have iD:=e4.aX iD
 have n4:b4 ≠ b:=fun e=>by subst e; exact absurd gN.1 (cj (by assumption:U.box b4=some [v,vl,opsV]))
 generalize (U.new b4 _).set b4 _=aR at *
 have up:∀ l ad,PS b v aR l ad->PS b v aq l ad:=fun l ad h'=>h4.app h'
 have h4:=h4.Ds
 rw [cz]
 intro b5 jP
 have m5:(aR.new b5 (.box [AV.ah])).box b5=some [.ah]:=aG
 have Bx:=jP.bP m4
 have n5:b5 ≠ b:=(jP.bP iD).symm
 have e5:=bg jP (x:=.box [AV.ah])
 have h5:=h4.mono e5
 have iD:=e5.aX iD
 have m4:=e5.aX m4
 generalize aR.new b5 (.box [AV.ah])=a7 at *
 refine gj ?_
 rw [o5 iD]
 refine ⟨by simp,?_⟩
 rw [show ([v,vl,opsV].drop 0).take 1=[v] from rfl]
 refine xP (n:=n) hv.s hx (bI (by omega) (by omega)) fun bn be bt bO d1 d2 d3 f1 f2 f3 q1 q2 q3 e3=>?_
 rw [bB]
 have h6:=h5.mono e3
 have n4n:b4 ≠ bn:=fun e=>cj m4 (e ▸ f1)
 have n4e:b4 ≠ be:=fun e=>cj m4 (e ▸ f2)
 have n4t:b4 ≠ bt:=fun e=>cj m4 (e ▸ f3)
 have n5n:b5 ≠ bn:=fun e=>cj m5 (e ▸ f1)
 have n5e:b5 ≠ be:=fun e=>cj m5 (e ▸ f2)
 have n5t:b5 ≠ bt:=fun e=>cj m5 (e ▸ f3)
 have m4:=e3.aX m4
 have m5:=e3.aX m5
 have fin:∀ (jo:St) (vk:AV),jo.box b4=some (db x)->jo.box b5=some [vk]->eJ vk pl.length (iY pl)->PS b v aR bp jo ->
  (af (some 0) (.box b4 0)).wp K jo (fun fI U =>
  (aj (some (false,1)) fI U).wp K U (fun fC U =>
  ae K 179 [fC] U (ag (fun ic U =>
  aw ic (
   (aj (some (true,6)) (.box b4 0) U).wp K U (fun hX U =>
   (aj (some (false,1)) (.box b5 0) U).wp K U (fun v37 U =>
   ae K 180 [.box b 0,hX,v37] U (ag (fun gH U =>
   ak R (AV.aH []) U) (aa R))) (aa R)) (aa R)) (
   (af (some 0) (.box b4 0)).wp K U (fun v40 U =>
   (aj (some (false,1)) v40 U).wp K U (fun jv U =>
   ae K 181 [jv] U (ag (fun lO U =>
   aw lO (
    (aj (some (true,6)) (.box b4 0) U).wp K U (fun nz U =>
    (aj (some (false,1)) (.box b5 0) U).wp K U (fun nA U =>
    ae K 182 [.box b 0,nz,nA] U (ag (fun v46 U =>
    ak R (AV.aH []) U) (aa R))) (aa R)) (aa R)) (
    (af (some 0) (.box b4 0)).wp K U (fun qY U =>
    (aj (some (false,1)) qY U).wp K U (fun v49 U =>
    (ax .geq (BT.mk false false false none false) true v49 (AV.int .u8 17)).wp K U (fun jG U =>
    ao K (aP jG true) (af (some 0) (.box b4 0)) (fun o0 =>
    ao K (aP jG true) (aj (some (false,1)) o0 U) (fun v53 =>
    ao K (aP jG true) (ax .leq (BT.mk false false false none false) true v53 (AV.int .u8 25)) (fun mJ =>
    (bQ jG mJ (AV.bool false)).wp K U (fun nD U =>
    aw nD (
     (aj (some (true,6)) (.box b4 0) U).wp K U (fun qZ U =>
     (aj (some (false,1)) (.box b5 0) U).wp K U (fun o4 U =>
     ae K 183 [.box b 0,qZ,o4] U (ag (fun v59 U =>
     ak R (AV.aH []) U) (aa R))) (aa R)) (aa R)) (
     (af (some 0) (.box b4 0)).wp K U (fun nK U =>
     (aj (some (false,1)) nK U).wp K U (fun xd U =>
     (ax .geq (BT.mk false false false none false) true xd (AV.int .u8 9)).wp K U (fun pN U =>
     ao K (aP pN true) (af (some 0) (.box b4 0)) (fun rY =>
     ao K (aP pN true) (aj (some (false,1)) rY U) (fun vr =>
     ao K (aP pN true) (ax .leq (BT.mk false false false none false) true vr (AV.int .u8 16)) (fun tG =>
     (bQ pN tG (AV.bool false)).wp K U (fun xe U =>
     aw xe (
      (aj (some (true,6)) (.box b4 0) U).wp K U (fun v70 U =>
      (aj (some (false,1)) (.box b5 0) U).wp K U (fun Jy U =>
      ae K 184 [.box b 0,v70,Jy] U (ag (fun v72 U =>
      ak R (AV.aH []) U) (aa R))) (aa R)) (aa R)) (
      (af (some 0) (.box b4 0)).wp K U (fun uL U =>
      (aj (some (false,1)) uL U).wp K U (fun v75 U =>
      ae K 185 [v75] U (ag (fun v76 U =>
      aw v76 (
       (aj (some (true,6)) (.box b4 0) U).wp K U (fun Gj U =>
       (aj (some (false,1)) (.box b5 0) U).wp K U (fun LI U =>
       ae K 186 [.box b 0,Gj,LI] U (ag (fun v80 U =>
       ak R (AV.aH []) U) (aa R))) (aa R)) (aa R)) (
       (aj (some (true,6)) (.box b4 0) U).wp K U (fun v28 U =>
       (aj (some (false,1)) (.box b5 0) U).wp K U (fun ej U =>
       ae K 187 [.box b 0,v28,ej] U (ag (fun v30 U =>
       ak R (AV.aH []) U) (aa R))) (aa R)) (aa R))) (aa R))) (aa R)) (aa R))) (aa R))))) (aa R)) (aa R)) (aa R))) (aa R))))) (aa R)) (aa R)) (aa R))) (aa R))) (aa R)) (aa R))) (aa R))) (aa R)) (aa R):=by
  intro jo vk m4 m5 dG h7
  have call:∀ f,sg s.kind=f->(aj (some (true,6)) (.box b4 0) jo).wp K jo (fun hX U=>(aj (some (false,1)) (.box b5 0) U).wp K U (fun v37 U=>ae K f [.box b 0,hX,v37] U (ag (fun gH U=>ak R (AV.aH []) U) (aa R))) (aa R)) (aa R):=by
   intro f hfe
   rw [o5 m4]
   refine ⟨by simp [db],?_⟩
   rw [show ((db x).drop 0).take 6=db x from rfl]
   refine dY m5 rfl ?_
   rw [aaV,<- hfe]
   exact hf _ _ _ _ _ _ _ dG h7 hb fun ad h'=>ak.mk (hk ad (up _ _ h'))
  have Pz:∀ {K':AV->St->Prop} {Kp:AV->St->Prop},K' (.int .u8 s.kind) jo->(af (some 0) (.box b4 0)).wp K jo (fun fI U=>(aj (some (false,1)) fI U).wp K U K' Kp) Kp:=by
   intro K' Kp hK
   refine gj (dY m4 (show _=AV.int .u8 x.kind::_ from rfl) ?_)
   rw [uq]; exact hK
  refine Pz ((Dk s.kind).go ?_)
  cases c1:iQ s.kind with
  | true=>exact dP (call 180 (by unfold sg; rw [if_pos c1]))
  | false =>
  refine dC (Pz ((Dm s.kind).go ?_))
  cases c2:pC s.kind with
  | true=>exact dP (call 182 (by unfold sg; rw [if_neg (by simp [c1]),if_pos c2]))
  | false =>
  refine dC (Pz ?_)
  have VV:sg s.kind=if 17 <= s.kind/\s.kind <= 25 then 183 else if 9 <= s.kind/\s.kind <= 16 then 184 else if cq s.kind=true then 186 else 187:=by
   unfold sg; rw [if_neg (by simp [c1]),if_neg (by simp [c2])]
  have rng:∀ (lo hi:Int) (A B:AV->St->Prop),(lo <= s.kind/\s.kind <= hi->A (.bool true) jo)->(¬ (lo <= s.kind/\s.kind <= hi)->B (.bool false) jo) ->
   (ax .geq (BT.mk false false false none false) true (.int .u8 s.kind) (AV.int .u8 lo)).wp K jo (fun jG U =>
   ao K (aP jG true) (af (some 0) (.box b4 0)) (fun o0 =>
   ao K (aP jG true) (aj (some (false,1)) o0 U) (fun v53 =>
   ao K (aP jG true) (ax .leq (BT.mk false false false none false) true v53 (AV.int .u8 hi)) (fun mJ =>
   (bQ jG mJ (AV.bool false)).wp K U (fun nD U=>aw nD (A nD U) (B nD U)) (aa R))))) (aa R):=by
   intro lo hi A B hA hB
   rw [il,al]
   by_cases h1:lo <= s.kind
   . simp only [h1,du,bf,gR,aN,cx]
     refine kJ (fK m4 (show _=AV.int .u8 x.kind::_ from rfl) ?_)
     rw [uq,mA,aJ]
     simp only [aM,if_true,al]
     by_cases h2:s.kind <= hi
     . simp only [h2,du]; exact dP (hA ⟨h1,h2⟩)
     . simp only [h2,eB]; exact dC (hB fun h3=>h2 h3.2)
   . simp only [h1,eB,bf,show (false == true)=false from rfl,aN,cF,aM,bU,if_false,al]
     exact dC (hB fun h3=>h1 h3.1)
  refine rng 17 25 _ _ (fun h1=>call 183 (by rw [VV,if_pos h1])) fun h1=>Pz (rng 9 16 _ _ (fun h2=>call 184 (by rw [VV,if_neg h1,if_pos h2])) fun h2=>Pz ((x8 s.kind).go ?_))
  cases c3:cq s.kind with
  | true=>exact dP (call 186 (by rw [VV,if_neg h1,if_neg h2,if_pos c3]))
  | false=>exact dC (call 187 (by rw [VV,if_neg h1,if_neg h2,if_neg (by simp [c3])]))
 refine BD (n:=n) (en:=(n:Int)+x.size)
  (fun o ks ad=>(ad.box bn=some [.int .i64 (n:Nat)]/\ad.box be=some [.int .i64 ((n:Int)+x.size)]/\ad.box bt=some [v])/\ad.box b4=some (db x)/\(∃ vk,ad.box b5=some [vk]/\gk aR ad vk 3 1 ks.length (iY ks))/\aR.live o=none/\PS b v aR bp ad)
  (fun _ _=>False) hv.s (by omega) (by omega) (by omega)
  (fun o ks ad hI=>hI.1) (fun o ks ad L0 L' hI ho=>?_) (fun o ad L0 L' hJ ho=>hJ) (fun ks jk y ad o L1 q hI hy aQ adL hnk sU si js O8 Wj=>?_) (fun ks ad o L0 iC hI E9=>?_) (fun ad o L0 hJ E9=>hJ.elim) (fun o L0 ho=>?_)
 . obtain ⟨⟨i1,i2,i3⟩,i4,⟨vk,i5,i6⟩,i7,i8⟩:=hI
   have kb:∀ {c y},ad.box c=some y->(ad.set o (.loop L')).box c=some y:=fun h=>by rw [aO (bT h ho)]; exact h
   exact ⟨⟨kb i1,kb i2,kb i3⟩,kb i4,⟨vk,kb i5,i6.loop ho (i6.ex.set i7)⟩,i7,i8.iH i7 ho fun c hc=>by rw [dR,if_neg hc]⟩
 . obtain ⟨⟨i1,i2,i3⟩,i4,⟨vk,i5,i6⟩,i7,i8⟩:=hI
   refine dY i5 rfl ?_
   refine NQ rfl rfl ?_
   refine JA i6 (m:=1) (l2:=[.int .i64 (jk:Nat)]) rfl rfl (by omega) (by omega) fun di v' g2 k2=>?_
   have kb:∀ {c y},ad.box c=some y->di.box c=some y:=fun h=>(nG i6.g k2).1 h
   have kl:∀ {c L},ad.loop c=some L->di.loop c=some L:=fun h=>(nG i6.g k2).2 h
   have i8:=i8.other (by decide) i6 k2
   have tB:v'.dc=true/\au v'=[v']:=by
    rcases g2.g with ⟨h0,_,_⟩ | ⟨τ,r1,_,_⟩
    . omega
    . rw [r1]; exact ⟨rfl,rfl⟩
   have i5:=kb i5
   rw [cI i5]
   refine ⟨⟨tB.1,by rw [tB.2]; rfl,by simp⟩,?_⟩
   have i8':PS b v aR bp (di.set b5 (.box (ay [vk] 0 (au v')))):=i8.cg n5 jP.1 i5
   refine O8 _ ⟨⟨?_,?_,?_⟩,?_,⟨v',?_,?_⟩,i7,i8'⟩ ?_ ?_
   . rw [aO n5n.symm]; exact kb i1
   . rw [aO n5e.symm]; exact kb i2
   . rw [aO n5t.symm]; exact kb i3
   . rw [aO Bx]; exact kb i4
   . rw [aV,tB.2]; rfl
   . have:gk aR (di.set b5 (.box (ay [vk] 0 (au v')))) v' 3 1 (ks.length+1) (iY ks++[.int .i64 (jk:Nat)]):=by
      refine ⟨?_,g2.z,g2.t,g2.ex.set jP.1⟩
      rcases g2.g with g | ⟨τ,r1,r2,r3⟩
      . exact .inl g
      . exact .inr ⟨τ,r1,by rw [gX (eV i5 r2).symm]; exact r2,r3⟩
     simpa [iY] using this
   . exact hz _ _ hy
   . rw [fM]; exact kl js
     rw [dR,if_neg (bT i5 (kl js)).symm]
 . obtain ⟨⟨i1,i2,i3⟩,i4,⟨vk,i5,i6⟩,i7,i8⟩:=hI
   have kb:∀ {c y},ad.box c=some y->(ad.del o).box c=some y:=fun h=>by rw [jg (bT h E9)]; exact h
   have i8:=i8.iH (a7:=ad.del o) i7 E9 fun c hc=>by rw [kF,if_neg hc]
   rw [KT] at iC
   subst iC
   exact fin _ vk (kb i4) (kb i5) i6.sl i8
 . have e:=bg ho (x:=.loop L0)
   exact ⟨⟨e.aX q1,e.aX q2,e.aX q3⟩,e.aX m4,⟨.ah,e.aX m5,gk.nil ((e5.trans e3).trans e)⟩,(e5.trans e3).fresh ho.1,h6.mono e⟩
end
end Go.Rip
namespace Go.Rip
open Go.Proofs Go.RowKit
section
variable {v:AV} {L:List Nd}
theorem aaI {s:Tre} {pl:List Nat} (hv:eJ v L.length (bK L)) (h9:s.flat.length <= 900) (ho:s.ok=true) (h1:s.kind ≠ 1) (hp:fE v L pl s.kids):jx (sg s.kind) v s pl:=by
 cases s with
 | mk k x nn m a ks =>
   obtain ⟨fo,ep,g1,g2,g3⟩:=Tre.rC ho
   obtain ⟨f1,f2,f3,f4,f5,f6⟩:=iq g1
   have hlen:(Tre.bG ks).length+1=(Tre.mk k x nn m a ks).flat.length:=by rw [Tre.fp]; simp
   have sU:ks.length <= 900:=by have:=Tre.nF ks; omega
   have hp:fE v L pl ks:=hp
   have qN:k ≠ 1:=h1
   have hk:(k=2\/(k=3\/k=4))\/k=5\/(k=6\/k=7)\/k=8\/k=9\/k=10\/(k=11\/k=15)\/k=12\/k=13\/k=14\/k=16\/(k ∈ nH/\k ≠ 25)\/k=19\/k=25\/k=26\/(k=27\/k=28\/k=29\/k=30)\/k=31\/k=32\/k=33\/k=34\/k=35\/k=36\/k=37:=by
    by_cases hr:2 <= k/\k <= 37
    . simp only [nH,cD,List.not_mem_nil,or_false]; omega
    . exfalso
      unfold bC at ep
      rw [if_neg (by omega),if_neg (by omega),if_neg (by omega),if_neg (by omega),if_neg (by omega),if_neg (by omega),if_neg (by omega),if_neg (by omega),if_neg (by omega),if_neg (by omega),if_neg (by omega),if_neg (by omega),if_neg (by omega),if_neg (by omega),if_neg (by omega),if_neg (by omega),if_neg (by omega),if_neg (by omega),if_neg (by omega),if_neg (by omega),if_neg (by omega)] at ep
      cases ep
   have nil:dQ (ks.map Tre.kind) []=true->ks=[]:=fun h=>by
    have:(ks.map Tre.kind).isEmpty=true:=h
    simpa using this
   have term:∀ {c:Tre},iK.term.is c.kind=true->cq c.kind=true:=fun h=>h
   rcases hk with (rfl | hk) | rfl | hk | rfl | rfl | rfl | hk | rfl | rfl | rfl | rfl | ⟨hk,wv⟩ | rfl | rfl | rfl | hk | rfl | rfl | rfl | rfl | rfl | rfl | rfl
   . obtain rfl:(⟨true,false,false,[⟨.type,1,1⟩]⟩:gd)=fo:=by simpa [bC] using ep
     obtain ⟨A,rfl,_⟩:=mM g2
     exact JR hp
   . have km:fo=⟨true,false,false,[⟨.kind 5,0,900⟩,⟨.base,1,1⟩,⟨.term,1,1⟩]⟩:=by rcases hk with rfl | rfl <;> simpa [bC] using ep.symm
     subst km
     obtain ⟨ps,B,C,rfl,_,_,_,_⟩:=xO (by omega) g2
     have:sg k=180:=by rcases hk with rfl | rfl <;> rfl
     show jx (sg k) _ _ _
     rw [this]
     exact Tu hk (by simp at sU; omega) hp
   . obtain rfl:(⟨true,false,false,[⟨.type,1,1⟩]⟩:gd)=fo:=by simpa [bC] using ep
     obtain ⟨A,rfl,_⟩:=mM g2
     exact Mh hp
   . have km:fo=⟨false,true,false,[]⟩:=by rcases hk with rfl | rfl <;> simpa [bC] using ep.symm
     subst km
     obtain rfl:=nil g2
     have:sg k=182:=by rcases hk with rfl | rfl <;> rfl
     show jx (sg k) _ _ _
     rw [this]
     exact Ov hk f3
   . obtain rfl:(⟨false,false,false,[⟨.base,2,900⟩]⟩:gd)=fo:=by simpa [bC] using ep
     obtain ⟨hl,_⟩:=AA g2
     obtain ⟨ps,B,rfl⟩:=mq (l:=ks) (by omega)
     exact Mf (by simp at sU; omega) hp
   . obtain rfl:(⟨false,false,false,[⟨.term,2,900⟩]⟩:gd)=fo:=by simpa [bC] using ep
     obtain ⟨hl,hc⟩:=AA g2
     match ks,hl with
     | A::ts,_=>exact Tz (by simp at sU; omega) hv hp fun t ht=>hc t ht
   . obtain rfl:(⟨false,false,false,[⟨.term,3,3⟩]⟩:gd)=fo:=by simpa [bC] using ep
     obtain ⟨A,B,C,rfl,hA,hB,hC⟩:=Ww g2
     exact XS hv hp hA hB hC
   . have km:fo=⟨false,false,false,[⟨.term,2,2⟩]⟩:=by rcases hk with rfl | rfl <;> simpa [bC] using ep.symm
     subst km
     obtain ⟨A,B,rfl,hA,hB⟩:=xN g2
     rcases hk with rfl | rfl
     . exact Hu (k:=11) (w:=fW) (u:=sE) (by simp) hv hp hA hB
     . exact Hu (k:=15) (w:=gq) (u:=eU) (by simp) hv hp hA hB
   . obtain rfl:(⟨true,true,true,[⟨.term,1,1⟩]⟩:gd)=fo:=by simpa [bC] using ep
     obtain ⟨A,rfl,hA⟩:=mM g2
     exact Tw f3 f4 hv hp hA
   . obtain rfl:(⟨true,false,false,[⟨.term,2,2⟩]⟩:gd)=fo:=by simpa [bC] using ep
     obtain ⟨A,B,rfl,hA,hB⟩:=xN g2
     exact Mg hv hp hA hB
   . obtain rfl:(⟨true,true,false,[⟨.term,1,1⟩]⟩:gd)=fo:=by simpa [bC] using ep
     obtain ⟨A,rfl,hA⟩:=mM g2
     exact JS f3 hv hp hA
   . obtain rfl:(⟨true,false,false,[⟨.term,1,1⟩]⟩:gd)=fo:=by simpa [bC] using ep
     obtain ⟨A,rfl,hA⟩:=mM g2
     exact Ty hv hp hA
   . have km:fo=⟨false,false,false,[⟨.term,2,2⟩]⟩:=by
      simp only [nH,cD,List.not_mem_nil,or_false] at hk
      rcases hk with rfl | rfl | rfl | rfl | rfl | rfl | rfl | rfl
      all_goals first
       | exact absurd rfl wv
       | simpa [bC] using ep.symm
     subst km
     obtain ⟨A,B,rfl,hA,hB⟩:=xN g2
     have:sg k=183:=by
      simp only [nH,cD,List.not_mem_nil,or_false] at hk
      rcases hk with rfl | rfl | rfl | rfl | rfl | rfl | rfl | rfl <;> rfl
     show jx (sg k) _ _ _
     rw [this]
     exact KG hk (.inr ⟨wv,B,rfl,hB⟩) hv hp hA
   . obtain rfl:(⟨false,false,false,[⟨.term,1,1⟩]⟩:gd)=fo:=by simpa [bC] using ep
     obtain ⟨A,rfl,hA⟩:=mM g2
     exact Tv hv hp hA
   . obtain rfl:(⟨false,true,false,[⟨.term,1,1⟩]⟩:gd)=fo:=by simpa [bC] using ep
     obtain ⟨A,rfl,hA⟩:=mM g2
     exact KG (k:=25) (rs:=[]) (by decide) (.inl ⟨rfl,rfl,f3⟩) hv hp hA
   . obtain rfl:(⟨false,true,false,[]⟩:gd)=fo:=by simpa [bC] using ep
     obtain rfl:=nil g2
     exact TB f3
   . have km:fo=⟨false,false,false,[]⟩:=by rcases hk with rfl | rfl | rfl | rfl <;> simpa [bC] using ep.symm
     subst km
     obtain rfl:=nil g2
     rcases hk with rfl | rfl | rfl | rfl
     . exact uU (k:=27) (w:=dB) (by simp)
     . exact uU (k:=28) (w:=dE) (by simp)
     . exact uU (k:=29) (w:=fB) (by simp)
     . exact uU (k:=30) (w:=gw) (by simp)
   . obtain rfl:(⟨true,false,false,[]⟩:gd)=fo:=by simpa [bC] using ep
     obtain rfl:=nil g2
     exact Ox
   . obtain rfl:(⟨true,false,false,[]⟩:gd)=fo:=by simpa [bC] using ep
     obtain rfl:=nil g2
     exact TA
   . obtain rfl:(⟨true,false,false,[]⟩:gd)=fo:=by simpa [bC] using ep
     obtain rfl:=nil g2
     exact Oy
   . exact Ow (by omega) hp
   . obtain rfl:(⟨false,false,false,[⟨.kind 37,1,900⟩,⟨.term,1,1⟩]⟩:gd)=fo:=by simpa [bC] using ep
     obtain ⟨ps,B,rfl,hl,_,hB⟩:=C5 (by omega) g2
     exact XT (by simp at sU; omega) hl hv hp hB
   . obtain rfl:(⟨false,false,false,[⟨.term,1,1⟩,⟨.kind 37,1,1⟩,⟨.term,1,1⟩]⟩:gd)=fo:=by simpa [bC] using ep
     obtain ⟨A,B,C,rfl,hA,_,hC⟩:=Lg g2
     exact JT hv hp hA hC
   . obtain rfl:(⟨true,false,false,[]⟩:gd)=fo:=by simpa [bC] using ep
     obtain rfl:=nil g2
     exact Oz
theorem II (hv:Sl v L) (hL:L.length <= 1000) (hz:∀ (i:Nat) (y:Nd),L[i]?=some y->y.size <= 100000):∀ (N:Nat) (s:Tre) (n:Nat),s.flat.length <= N->gm L n s->s.flat.length <= 900->s.ok=true->s.kind ≠ 1->qt v n s
 | 0,s,n,hN,_,_,_,_=>by have:=s.ef; omega
 | N+1,s,n,hN,hs,h9,ho,h1=>by
   have hk:=Ea ho
   have Bg:=nN s
   refine Yi hv hL hz hs rfl (aaI hv.s h9 ho h1 ⟨qn _ _,fun i q t hq ht=>?_⟩)
   obtain ⟨u,hu,Wn⟩:=yk hs.kids hq
   rw [ht] at hu
   obtain rfl:t=u:=by simpa using hu
   have hm:=gh ht
   have aQ:=Tre.uu hm
   obtain ⟨k1,k2⟩:=hk t hm
   obtain ⟨x,hx,uq,_⟩:=Wn.qG
   exact ⟨II hv hL hz N t q (by omega) Wn (by omega) k2 k1,x,hx,uq⟩
end
end Go.Rip
