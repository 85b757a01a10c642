/- Lemmas for the proof: no conditions. -/
import Derived.Test.YtnfpmiiopiinbaaGreatDoorRipZz
import Derived.Test.YtnfpmiiopiinbaaGreatDoorRipYg
set_option linter.unusedVariables false
set_option linter.unusedSimpArgs false
set_option linter.loopingSimpArgs false
namespace Go.Rip
open Go.Proofs Go.RowKit
section
variable {b n:Nat} {U ao aP ad:St} {v:AV} {bh l rest:List Tx} {L:List Nd} {t:Tre} {x:aQ} {nn m a:Int} {pl:List Nat}
theorem pR {C:cq} {K':AV->St->Prop} {Kp:AV->St->Prop} {mm:Nat} {ks vs ks' vs':List AV} {k:Int} {y:AV} {ty:TypeId} (h:U.mp mm=some (ks,vs)) (hf:kj .i (.int .u8 k) ks 0=some none) (hi:fR (.int .u8 k) y ks vs=(ks',vs')) :
 (dp (some (.i,ty)) (.mp mm) (.int .u8 k) y U).wp C U K' Kp=K' (.aF []) (U.set mm (.mp ks' vs')):=by
 simp only [dp,h,hf,oG,hi]; rfl
theorem QF (hn:fQ nn=true):hZ 186 v (.mk 26 x nn m a []) pl:=by
 intro b ao U bh R z vk cF h hb hk
 have e:(Tre.mk 26 x nn m a []).pr=[ov nn]:=by rw [Tre.fF]; simp [dH]
 rw [e] at hb
 refine o9 ?_
 unfold sH
 refine eX h fun b4 aP n4 m4 h1 up=>fC n4 m4 h1 (show _=some (.int .u8 26) from rfl) ?_
 refine oo rfl (fC n4 m4 h1 rfl ?_)
 refine pa hn h1 hb fun aZ h2 _=>ak.mk (hk _ (up _ _ ?_))
 rw [e]; exact h2
theorem LQ:hZ 186 v (.mk 31 x nn m a []) pl:=by
 intro b ao U bh R z vk cF h hb hk
 have e:(Tre.mk 31 x nn m a []).pr=[mg].map bm++[iY x]:=by rw [Tre.fF]; simp [dH]
 rw [e] at hb
 refine o9 ?_
 unfold sH
 refine eX h fun b4 aP n4 m4 h1 up=>fC n4 m4 h1 (show _=some (.int .u8 31) from rfl) ?_
 refine eV (by decide) (oo rfl ?_)
 refine cw (db (by decide) (by decide) h1 hb fun aZ h2 b2=>fC n4 m4 h2 rfl ?_)
 refine lu h2 b2 fun bZ h3 _=>ak.mk (hk _ (up _ _ ?_))
 rw [e]; simpa [Tre.text,Tre.n,Tre.m] using h3
theorem QE:hZ 186 v (.mk 32 x nn m a []) pl:=by
 intro b ao U bh R z vk cF h hb hk
 have e:(Tre.mk 32 x nn m a []).pr=[oK].map bm++[iY x]:=by rw [Tre.fF]; simp [dH]
 rw [e] at hb
 refine o9 ?_
 unfold sH
 refine eX h fun b4 aP n4 m4 h1 up=>fC n4 m4 h1 (show _=some (.int .u8 32) from rfl) ?_
 refine eV (by decide) (eV (by decide) (oo rfl ?_))
 refine cw (db (by decide) (by decide) h1 hb fun aZ h2 b2=>fC n4 m4 h2 rfl ?_)
 refine lu h2 b2 fun bZ h3 _=>ak.mk (hk _ (up _ _ ?_))
 rw [e]; simpa [Tre.text,Tre.n,Tre.m] using h3
theorem LR:hZ 186 v (.mk 33 x nn m a []) pl:=by
 intro b ao U bh R z vk cF h hb hk
 have e:(Tre.mk 33 x nn m a []).pr=[iY x]:=by rw [Tre.fF]; simp [dH]
 rw [e] at hb
 refine o9 ?_
 unfold sH
 refine eX h fun b4 aP n4 m4 h1 up=>fC n4 m4 h1 (show _=some (.int .u8 33) from rfl) ?_
 refine eV (by decide) (eV (by decide) (eV (by decide) (oo rfl (fC n4 m4 h1 rfl ?_))))
 refine lu h1 hb fun bZ h3 _=>ak.mk (hk _ (up _ _ ?_))
 rw [e]; exact h3
theorem LP {ks:List Tre} (AS:ks.length <= 1000) (hp:eF v L pl ks):hZ 186 v (.mk 34 x nn m a ks) pl:=by
 intro b ao U bh R z vk cF h hb hk
 have e:(Tre.mk 34 x nn m a ks).pr=iY x::([fy].map bm++(eE fG (ks.map Tre.pr)++([gd].map bm++[]))):=by
  rw [Tre.fF]
  simp only [dH,List.map_map]
  simp [Function.comp_def]
 rw [e] at hb
 refine o9 ?_
 unfold sH
 refine eX h fun b4 aP n4 m4 h1 up=>fC n4 m4 h1 (show _=some (.int .u8 34) from rfl) ?_
 refine eV (by decide) (eV (by decide) (eV (by decide) (eV (by decide) (oo rfl (fC n4 m4 h1 rfl ?_)))))
 refine lu h1 hb fun aZ h2 b2=>?_
 refine cw (db (by decide) (by decide) h2 b2 fun bZ h3 b3=>?_)
 refine yT cF hp AS h3 b3 fun cC h4 oU=>?_
 refine cw (db (by decide) (by decide) h4 oU fun dm h5 _=>ak.mk (hk _ (up _ _ ?_)))
 rw [e]; simpa [Tre.text,Tre.n,Tre.m] using h5
theorem sR {k:Int} {w:aQ} (FG:(k,w) ∈ [((27:Int),du),(28,dC),(29,fA),(30,gY)]):hZ 186 v (.mk k x nn m a []) pl:=by
 intro b ao U bh R z vk cF h hb hk
 have e:(Tre.mk k x nn m a []).pr=[w].map bm++[]:=by
  rw [Tre.fF]
  simp only [cD,List.not_mem_nil,or_false,ik] at FG
  rcases FG with ⟨rfl,rfl⟩ | ⟨rfl,rfl⟩ | ⟨rfl,rfl⟩ | ⟨rfl,rfl⟩ <;> simp [dH]
 rw [e] at hb
 have hw:w ≠ []:=by
  simp only [cD,List.not_mem_nil,or_false,ik] at FG
  rcases FG with ⟨_,rfl⟩ | ⟨_,rfl⟩ | ⟨_,rfl⟩ | ⟨_,rfl⟩ <;> decide
 have hkr:27 <= k/\k <= 30:=by
  simp only [cD,List.not_mem_nil,or_false,ik] at FG
  omega
 refine o9 ?_
 unfold sH
 refine eX h fun b4 aP n4 m4 h1 up=>fC n4 m4 h1 (show _=some (.int .u8 k) from rfl) ?_
 refine eV (by omega) (eV (by omega) (eV (by omega) (eV (by omega) (eV (by omega) ?_))))
 rw [ju]
 intro mm qE
 rw [show NV.at mm .mp=AV.mp mm from rfl]
 rw [pR (ks':=[.int .u8 27]) (vs':=[.str du]) ti rfl rfl]
 rw [pR (ks':=[.int .u8 27,.int .u8 28]) (vs':=[.str du,.str dC]) fK rfl rfl]
 rw [pR (ks':=[.int .u8 27,.int .u8 28,.int .u8 29]) (vs':=[.str du,.str dC,.str fA]) fK rfl rfl]
 rw [pR (ks':=[.int .u8 27,.int .u8 28,.int .u8 29,.int .u8 30]) (vs':=[.str du,.str dC,.str fA,.str gY]) fK rfl rfl]
 have e1:cN aP (((((aP.new mm (.mp [] [])).set mm (.mp [.int .u8 27] [.str du])).set mm (.mp [.int .u8 27,.int .u8 28] [.str du,.str dC])).set mm (.mp [.int .u8 27,.int .u8 28,.int .u8 29] [.str du,.str dC,.str fA])).set mm (.mp [.int .u8 27,.int .u8 28,.int .u8 29,.int .u8 30] [.str du,.str dC,.str fA,.str gY])) :=
  ((((a7 qE).set qE.1).set qE.1).set qE.1).set qE.1
 have M5:((((((aP.new mm (.mp [] [])).set mm (.mp [.int .u8 27] [.str du])).set mm (.mp [.int .u8 27,.int .u8 28] [.str du,.str dC])).set mm (.mp [.int .u8 27,.int .u8 28,.int .u8 29] [.str du,.str dC,.str fA])).set mm (.mp [.int .u8 27,.int .u8 28,.int .u8 29,.int .u8 30] [.str du,.str dC,.str fA,.str gY]))).mp mm=some ([.int .u8 27,.int .u8 28,.int .u8 29,.int .u8 30],[.str du,.str dC,.str fA,.str gY]):=fK
 have h2:=h1.mono e1
 generalize ((((aP.new mm (.mp [] [])).set mm _).set mm _).set mm _).set mm _=aZ at *
 refine fC n4 m4 h2 (show _=some (.int .u8 k) from rfl) ?_
 have Mq:dz (some (.i,9)) (some (AV.str [])) (.mp mm) (.int .u8 k) false aZ=.val (.str w):=by
  simp only [dz,jb,M5]
  simp only [cD,List.not_mem_nil,or_false,ik] at FG
  rcases FG with ⟨rfl,rfl⟩ | ⟨rfl,rfl⟩ | ⟨rfl,rfl⟩ | ⟨rfl,rfl⟩ <;> rfl
 rw [Mq,al]
 refine cw (db (rest:=[]) (fun u hu=>by rw [jg] at hu; subst hu; exact hw) (by simp) h2 hb fun bZ h3 _=>ak.mk (hk _ (up _ _ ?_)))
 rw [e,ia]; exact h3
theorem JE {A:Tre} (hp:eF v L pl [A]):hZ 187 v (.mk 5 x nn m a [A]) pl:=by
 intro b ao U bh R z vk cF h hb hk
 have e:(Tre.mk 5 x nn m a [A]).pr=iY x::([gX].map bm++(A.pr++[])):=by rw [Tre.fF]; simp [dH]
 rw [e] at hb
 obtain ⟨p,rfl,g,_⟩:=hp.one
 refine tu ?_
 unfold yk
 refine eX h fun b4 aP n4 m4 h1 up=>fC n4 m4 h1 (show _=some (.int .u8 5) from rfl) ?_
 refine oo rfl (fC n4 m4 h1 rfl ?_)
 refine lu h1 hb fun aZ h2 b2=>?_
 refine cw (db (by decide) (by decide) h2 b2 fun bZ h3 b3=>?_)
 refine jH (i:=0) cF rfl ?_
 refine qk g h3 b3 fun cC h4 _=>ak.mk (hk _ (up _ _ ?_))
 rw [e]; simpa [Tre.text,Tre.n,Tre.m] using h4
theorem LS:hZ 187 v (.mk 37 x nn m a []) pl:=by
 intro b ao U bh R z vk cF h hb hk
 have e:(Tre.mk 37 x nn m a []).pr=[iY x]:=by rw [Tre.fF]; simp [dH]
 rw [e] at hb
 refine tu ?_
 unfold yk
 refine eX h fun b4 aP n4 m4 h1 up=>fC n4 m4 h1 (show _=some (.int .u8 37) from rfl) ?_
 refine eV (by decide) (oo rfl (fC n4 m4 h1 rfl ?_))
 refine lu h1 hb fun bZ h3 _=>ak.mk (hk _ (up _ _ ?_))
 rw [e]; exact h3
theorem UD {ps:List Tre} {B:Tre} (AS:ps.length <= 900) (Mx:1 <= ps.length) (hv:dA v L.length (cH L)) (hp:eF v L pl (ps++[B])) (hB:di B.kind=true):hZ 187 v (.mk 35 x nn m a (ps++[B])) pl:=by
 intro b ao U bh R z vk cF h hb hk
 have e:(Tre.mk 35 x nn m a (ps++[B])).pr=[yx,fy].map bm++(eE fG (ps.map Tre.pr)++(de [gd] [B]++[])):=by
  rw [Tre.fF]
  have e1:(ps++[B]).map (fun t=>(t.kind,t.pr))=(ps.map fun t=>(t.kind,t.pr))++[(B.kind,B.pr)]:=by simp
  rw [e1]
  generalize hq:ps.map (fun t=>(t.kind,t.pr))=q
  have e3:ps.map Tre.pr=q.map (·.2):=by rw [<- hq,List.map_map]; rfl
  rw [e3]
  simp [dH,de,qf]
 rw [e] at hb
 have hlen:=hp.len
 rw [dh,List.length_singleton] at hlen
 obtain ⟨zm,uN⟩:=hp.app
 have Mp:=zm.len
 have se:=uN.len
 have bT:pl ≠ []:=fun e=>by rw [e] at hlen; simp at hlen
 refine tu ?_
 unfold yk
 refine eX h fun b4 aP n4 m4 h1 up=>fC n4 m4 h1 (show _=some (.int .u8 35) from rfl) ?_
 refine eV (by decide) (eV (by decide) (oo rfl ?_))
 rw [cF.len,al,EJ]
 refine ⟨bw (by omega) (by omega),?_⟩
 have vC:((pl.length:Int) - 1)=((ps.length:Nat):Int):=by omega
 rw [vC]
 refine nv (db (by decide) (by decide) h1 hb fun aZ h2 b2=>?_)
 refine lL (i:=0) (j:=ps.length) cF bT (by omega) (by omega) (iE _ _ _) rfl fun c=>?_
 rw [dJ]
 refine yT (.inr ⟨_,rfl⟩) zm (by omega) h2 b2 fun bZ h3 b3=>?_
 refine lL (i:=ps.length) (j:=pl.length) cF bT (by omega) (by omega) rfl (iE _ _ _) fun c=>?_
 rw [sE]
 refine cw (iN hv (.inr ⟨_,rfl⟩) uN (by simp [hB]) rfl (by simp) (by decide) h3 b3 fun tJ h8 _=>ak.mk (hk _ (up _ _ ?_)))
 rw [e]; simpa using h8
theorem HA {A B C:Tre} (hv:dA v L.length (cH L)) (hp:eF v L pl [A,B,C]) (hA:di A.kind=true) (hC:di C.kind=true):hZ 187 v (.mk 36 x nn m a [A,B,C]) pl:=by
 intro b ao U bh R z vk cF h hb hk
 have e:(Tre.mk 36 x nn m a [A,B,C]).pr=[rL].map bm++(de [yX] [A]++([ff,yZ].map bm++(B.pr++(de [wu] [C]++([tI].map bm++[]))))):=by
  rw [Tre.fF]; simp [dH,de]
 rw [e] at hb
 obtain ⟨p,q,r,rfl,⟨gA,xA,MB,Mo⟩,⟨gB,_⟩,gC,xC,hxC,hkC⟩:=hp.three
 have hpA:eF v L [p] [A]:=⟨rfl,fun i n t h1 h2=>by
  match i,h1,h2 with
  | 0,h1,h2=>simp at h1 h2; subst h1 h2; exact ⟨gA,xA,MB,Mo⟩⟩
 have Yl:eF v L [r] [C]:=⟨rfl,fun i n t h1 h2=>by
  match i,h1,h2 with
  | 0,h1,h2=>simp at h1 h2; subst h1 h2; exact ⟨gC,xC,hxC,hkC⟩⟩
 refine tu ?_
 unfold yk
 refine eX h fun b4 aP n4 m4 h1 up=>fC n4 m4 h1 (show _=some (.int .u8 36) from rfl) ?_
 refine eV (by decide) (eV (by decide) (eV (by decide) (oo rfl ?_)))
 refine cw (db (by decide) (by decide) h1 hb fun aZ h2 b2=>?_)
 refine lL (i:=0) (j:=1) cF (by simp) (by omega) (by simp) rfl rfl fun c=>?_
 refine cw (iN (pl:=[p]) hv (.inr ⟨_,rfl⟩) hpA (by simp [hA]) rfl (by simp) (by decide) h2 b2 fun bZ h3 b3=>?_)
 refine nv (db (by decide) (by decide) h3 b3 fun cC h4 oU=>?_)
 refine jH (i:=1) cF rfl ?_
 refine qk gB h4 oU fun dm h5 b5=>?_
 refine lL (i:=2) (j:=3) cF (by simp) (by omega) (by simp) rfl rfl fun c=>?_
 refine cw (iN (pl:=[r]) hv (.inr ⟨_,rfl⟩) Yl (by simp [hC]) rfl (by simp) (by decide) h5 b5 fun mi h6 b6=>?_)
 refine cw (db (by decide) (by decide) h6 b6 fun iw h7 _=>ak.mk (hk _ (up _ _ ?_)))
 rw [e]; simpa using h7
theorem JC {ps:List Tre} {B:Tre} (AS:ps.length <= 900) (hp:eF v L pl (ps++[B])):hZ 182 v (.mk 8 x nn m a (ps++[B])) pl:=by
 intro b ao U bh R z vk cF h hb hk
 have e:(Tre.mk 8 x nn m a (ps++[B])).pr=[fy].map bm++(eE fG (ps.map Tre.pr)++([gd,iq].map bm++(B.pr++[]))):=by
  rw [Tre.fF]
  have e1:(ps++[B]).map (fun t=>(t.kind,t.pr))=(ps.map fun t=>(t.kind,t.pr))++[(B.kind,B.pr)]:=by simp
  rw [e1]
  generalize hq:ps.map (fun t=>(t.kind,t.pr))=q
  have e3:ps.map Tre.pr=q.map (·.2):=by rw [<- hq,List.map_map]; rfl
  rw [e3]
  simp [dH,qf]
 rw [e] at hb
 have hlen:=hp.len
 rw [dh,List.length_singleton] at hlen
 obtain ⟨zm,uN⟩:=hp.app
 have bT:pl ≠ []:=fun e=>by rw [e] at hlen; simp at hlen
 obtain ⟨p,Dp,gB,_⟩:=uN.one
 have k9:pl[ps.length]?=some p:=by
  have:(pl.drop ps.length)[0]?=some p:=by rw [Dp]; rfl
  simpa using this
 refine DU ?_
 unfold GO
 refine eX h fun b4 aP n4 m4 h1 up=>fC n4 m4 h1 (show _=some (.int .u8 8) from rfl) ?_
 refine oo rfl ?_
 rw [cF.len,al,EJ]
 refine ⟨bw (by omega) (by omega),?_⟩
 have vC:((pl.length:Int) - 1)=((ps.length:Nat):Int):=by omega
 rw [vC]
 refine cw (db (by decide) (by decide) h1 hb fun aZ h2 b2=>?_)
 refine lL (i:=0) (j:=ps.length) cF bT (by omega) (by omega) (iE _ _ _) rfl fun c=>?_
 rw [dJ]
 refine yT (.inr ⟨_,rfl⟩) zm (by omega) h2 b2 fun bZ h3 b3=>?_
 refine nv (db (by decide) (by decide) h3 b3 fun cC h4 oU=>?_)
 refine jH cF k9 ?_
 refine qk gB h4 oU fun dm h5 b5=>ak.mk (hk _ (up _ _ ?_))
 rw [e]; simpa using h5
theorem LO {k:Int} (X4:k=6\/k=7) (hn:fQ nn=true):hZ 182 v (.mk k x nn m a []) pl:=by
 intro b ao U bh R z vk cF h hb hk
 refine DU ?_
 unfold GO
 refine eX h fun b4 aP n4 m4 h1 up=>fC n4 m4 h1 (show _=some (.int .u8 k) from rfl) ?_
 refine eV (by omega) (fC n4 m4 h1 (show _=some (.int .u8 k) from rfl) ?_)
 have big:(∀ y,(Tre.mk k x nn m a []).pr=y->y=[(if k=6 then mQ else nz)].map bm++[ov nn])->(aD.tj).wp K aP (fun v8 U =>
  (dp (some (.i,9)) v8 (AV.int .u8 6) (AV.str mQ) U).wp K U (fun _ U =>
  (dp (some (.i,9)) v8 (AV.int .u8 7) (AV.str nz) U).wp K U (fun _ U =>
  (af (some 0) (.box b4 0)).wp K U (fun v10 U =>
  (ah (some (false,1)) v10 U).wp K U (fun v11 U =>
  (dz (some (.i,9)) (some (AV.str [])) v8 v11 false U).wp K U (fun v12 U =>
  (aq (some (9,1)) (some [AV.str []]) 1 false [(0,v12)]).wp K U (fun cb U =>
  ae K 231 [.box b 0,cb] U (ag (fun ct U =>
  (af (some 2) (.box b4 0)).wp K U (fun dc U =>
  (ah (some (false,1)) dc U).wp K U (fun cZ U =>
  ae K 234 [.box b 0,cZ] U (ag (fun cm U =>
  ak R (AV.aF []) U) (aa R))) (aa R)) (aa R)) (aa R))) (aa R)) (aa R)) (aa R)) (aa R)) (aa R)) (aa R)) (aa R):=by
  intro he
  have e:=he _ rfl
  have hw:(if k=6 then mQ else nz) ≠ []:=by split <;> decide
  rw [e] at hb
  rw [ju]
  intro mm qE
  rw [show NV.at mm .mp=AV.mp mm from rfl]
  rw [pR (ks':=[.int .u8 6]) (vs':=[.str mQ]) ti rfl rfl]
  rw [pR (ks':=[.int .u8 6,.int .u8 7]) (vs':=[.str mQ,.str nz]) fK rfl rfl]
  have e1:cN aP (((aP.new mm (.mp [] [])).set mm (.mp [.int .u8 6] [.str mQ])).set mm (.mp [.int .u8 6,.int .u8 7] [.str mQ,.str nz])):=((a7 qE).set qE.1).set qE.1
  have M5:(((aP.new mm (.mp [] [])).set mm (.mp [.int .u8 6] [.str mQ])).set mm (.mp [.int .u8 6,.int .u8 7] [.str mQ,.str nz])).mp mm=some ([.int .u8 6,.int .u8 7],[.str mQ,.str nz]):=fK
  have h2:=h1.mono e1
  generalize ((aP.new mm (.mp [] [])).set mm _).set mm _=aZ at *
  refine fC n4 m4 h2 (show _=some (.int .u8 k) from rfl) ?_
  have Mq:dz (some (.i,9)) (some (AV.str [])) (.mp mm) (.int .u8 k) false aZ=.val (.str (if k=6 then mQ else nz)):=by
   simp only [dz,jb,M5]
   rcases X4 with rfl | rfl <;> rfl
  rw [Mq,al]
  refine cw (db (fun u hu=>by rw [jg] at hu; subst hu; exact hw) (by simp) h2 hb fun bZ h3 b3=>fC n4 m4 h3 rfl ?_)
  refine pa hn h3 b3 fun cC h4 _=>ak.mk (hk _ (up _ _ ?_))
  rw [e]; simpa [Tre.text,Tre.n,Tre.m] using h4
 have word:∀ w:aQ,w ≠ []->(Tre.mk k x nn m a []).pr=[w].map bm++[]->(aq (some (9,1)) (some [AV.str []]) 1 false [(0,(AV.str w))]).wp K aP (fun v53 U=>ae K 231 [.box b 0,v53] U (ag (fun mP U=>ak R (AV.aF []) U) (aa R))) (aa R):=by
  intro w hw e
  rw [e] at hb
  refine cw (db (rest:=[]) (fun u hu=>by rw [jg] at hu; subst hu; exact hw) (by simp) h1 hb fun bZ h3 _=>ak.mk (hk _ (up _ _ ?_)))
  rw [e,ia]; exact h3
 rw [bj,al]
 rcases X4 with rfl | rfl
 . simp only [da,aU,gm,aI,bQ]
   refine gV (dX (h1.fr.aS n4 m4) rfl ?_)
   rw [bj,aC]
   simp only [aL,if_true,al]
   refine fI (fun r9=>?_) fun r9=>?_
   . have r9:nn=1:=r9
     exact word EH (by decide) (by rw [Tre.fF]; simp [dH,r9])
   . have r9:¬ nn=1:=r9
     refine fC n4 m4 h1 (show _=some (.int .u8 6) from rfl) ?_
     rw [bj,al]
     simp only [da,aU,gm,aI,bQ]
     refine gV (dX (h1.fr.aS n4 m4) rfl ?_)
     rw [bj,aC]
     simp only [aL,if_true,al]
     refine fI (fun zg=>?_) fun zg=>?_
     . have zg:nn=2:=zg
       exact word B0 (by decide) (by rw [Tre.fF]; simp [dH,zg])
     . have zg:¬ nn=2:=zg
       exact big fun y hy=>by rw [<- hy,Tre.fF]; simp [dH,r9,zg]
 . simp only [show decide ((7:Int)=6)=false from rfl,aU,show (false == true)=false from rfl,aI,bV,aL,bJ,if_false,al]
   refine cO (fC n4 m4 h1 (show _=some (.int .u8 7) from rfl) ?_)
   rw [bj,al]
   simp only [show decide ((7:Int)=6)=false from rfl,aU,show (false == true)=false from rfl,aI,bV,aL,bJ,if_false,al]
   refine cO (big fun y hy=>by rw [<- hy,Tre.fF]; simp [dH])
end
end Go.Rip
namespace Go.Rip
open Go.Proofs Go.RowKit
section
variable {b n:Nat} {U ao aP ad:St} {v:AV} {bh l rest:List Tx} {L:List Nd} {t:Tre} {x:aQ} {nn m a:Int} {pl:List Nat}
def zw (k:Int):aQ:=if k=2 then eS else if k=3 then j0 else gz
theorem C8 {R:cA->St->Prop} {k z:Int} {ks:List Tre} {vk:AV} {rest:List Tx} (Dj:k=2\/k=3\/k=4) (h:PS b v ao bh U) (hb:(bh++([zw k].map bm++(iY x::rest))).length <= NT) (hk:∀ l ad,PS b v ao (bh++l) ad->(Tre.mk k x nn m a ks).pr=l->R (.ret (.aF [])) ad)
 (key:∀ b4 aP aZ,b4 ≠ b->aP.box b4=some (xj (.mk k x nn m a ks) z)->PS b v aP (bh++[zw k].map bm++[iY x]) aZ->(bh++[zw k].map bm++[iY x]++rest).length <= NT->(∀ l ad,PS b v aP l ad->PS b v ao l ad) ->
   (jx 1 (fun v0 U =>
     (aq (some (9,1)) (some [AV.str []]) 1 false [(0,(AV.str ff))]).wp K U (fun ly U =>
     ae K 231 [v0,ly] U (ag (fun sK U =>
     ak R (AV.aF []) U) (aa R))) (aa R)) fun j =>
   (af (some 0) (.box b4 0)).wp K aZ (fun cL U =>
   (ah (some (false,1)) cL U).wp K U (fun v20 U =>
   (ar .eql (BT.mk false false false none false) true v20 (AV.int .u8 2)).wp K U (fun v21 U =>
   av v21 (
    (aq (some (9,1)) (some [AV.str []]) 1 false [(0,(AV.str gX))]).wp K U (fun dZ U =>
    ae K 231 [.box b 0,dZ] U (ag (fun v24 U =>
    (aG (some (3,1)) none vk (AV.int .i64 0)).wp K U (fun dK U =>
    (ah (some (false,1)) dK U).wp K U (fun v28 U =>
    ae K 123 [.box b 0,v28] U (ag (fun dE U =>
    j (.box b 0) U) (aa R))) (aa R)) (aa R)) (aa R))) (aa R)) (
    (cj (some false) vk).wp K U (fun v31 U =>
    (ar .sub (BT.mk false false false none false) true v31 (AV.int .i64 2)).wp K U (fun eU U =>
    (aq (some (9,1)) (some [AV.str []]) 1 false [(0,(AV.str fy))]).wp K U (fun gn U =>
    ae K 231 [.box b 0,gn] U (ag (fun gy U =>
    (eI false (some (3,1)) vk none (some eU)).wp K U (fun mO U =>
    ae K 233 [.box b 0,mO] U (ag (fun v40 U =>
    (aq (some (9,1)) (some [AV.str []]) 2 false [(0,(AV.str gd)),(1,(AV.str gX))]).wp K U (fun jF U =>
    ae K 231 [.box b 0,jF] U (ag (fun js U =>
    (aG (some (3,1)) none vk eU).wp K U (fun jt U =>
    (ah (some (false,1)) jt U).wp K U (fun sJ U =>
    ae K 123 [.box b 0,sJ] U (ag (fun v49 U =>
    (aq (some (9,1)) (some [AV.str []]) 1 false [(0,(AV.str lS))]).wp K U (fun v51 U =>
    ae K 231 [.box b 0,v51] U (ag (fun nO U =>
    (ar .add (BT.mk false false false none false) true eU (AV.int .i64 1)).wp K U (fun pd U =>
    (aG (some (3,1)) none vk pd).wp K U (fun nP U =>
    (ah (some (false,1)) nP U).wp K U (fun nQ U =>
    ae K 123 [.box b 0,nQ] U (ag (fun v59 U =>
    j (.box b 0) U) (aa R))) (aa R)) (aa R)) (aa R)) (aa R))) (aa R)) (aa R))) (aa R)) (aa R)) (aa R))) (aa R)) (aa R))) (aa R)) (aa R))) (aa R)) (aa R)) (aa R))) (aa R)) (aa R)) (aa R))):ae K 180 [.box b 0,.agg (xj (.mk k x nn m a ks) z),vk] U R:=by
 have hw:zw k ≠ []:=by unfold zw; split; decide; split <;> decide
 refine OR ?_
 unfold OQ
 refine eX h fun b4 aP n4 m4 h1 up=>?_
 rw [ju]
 intro mm qE
 rw [show NV.at mm .mp=AV.mp mm from rfl]
 rw [pR (ks':=[.int .u8 2]) (vs':=[.str eS]) ti rfl rfl]
 rw [pR (ks':=[.int .u8 2,.int .u8 3]) (vs':=[.str eS,.str j0]) fK rfl rfl]
 rw [pR (ks':=[.int .u8 2,.int .u8 3,.int .u8 4]) (vs':=[.str eS,.str j0,.str gz]) fK rfl rfl]
 have e1:cN aP ((((aP.new mm (.mp [] [])).set mm (.mp [.int .u8 2] [.str eS])).set mm (.mp [.int .u8 2,.int .u8 3] [.str eS,.str j0])).set mm (.mp [.int .u8 2,.int .u8 3,.int .u8 4] [.str eS,.str j0,.str gz])) :=
  (((a7 qE).set qE.1).set qE.1).set qE.1
 have M5:((((aP.new mm (.mp [] [])).set mm (.mp [.int .u8 2] [.str eS])).set mm (.mp [.int .u8 2,.int .u8 3] [.str eS,.str j0])).set mm (.mp [.int .u8 2,.int .u8 3,.int .u8 4] [.str eS,.str j0,.str gz])).mp mm=some ([.int .u8 2,.int .u8 3,.int .u8 4],[.str eS,.str j0,.str gz]):=fK
 have h2:=h1.mono e1
 generalize (((aP.new mm (.mp [] [])).set mm _).set mm _).set mm _=aZ at *
 refine fC n4 m4 h2 (show _=some (.int .u8 k) from rfl) ?_
 have Mq:dz (some (.i,9)) (some (AV.str [])) (.mp mm) (.int .u8 k) false aZ=.val (.str (zw k)):=by
  simp only [dz,jb,M5]
  rcases Dj with rfl | rfl | rfl <;> rfl
 rw [Mq,al]
 refine cw (db (fun u hu=>by rw [jg] at hu; subst hu; exact hw) (by simp) h2 hb fun bZ h3 b3=>fC n4 m4 h3 rfl ?_)
 refine lu h3 b3 fun cC h4 oU=>?_
 exact key b4 aP cC n4 m4 h4 oU up
theorem Hy {A:Tre} (hp:eF v L pl [A]):hZ 180 v (.mk 2 x nn m a [A]) pl:=by
 intro b ao U bh R z vk cF h hb hk
 have e:(Tre.mk 2 x nn m a [A]).pr=[zw 2].map bm++(iY x::([gX].map bm++(A.pr++([ff].map bm++[])))):=by rw [Tre.fF]; simp [dH,zw]
 rw [e] at hb
 obtain ⟨p,rfl,g,_⟩:=hp.one
 refine C8 (k:=2) (.inl rfl) h hb (fun l ad h' e'=>hk ad (by rw [e']; exact h')) fun b4 aP aZ n4 m4 h2 b2 up=>?_
 intro j hj
 refine fC n4 m4 h2 (show _=some (.int .u8 2) from rfl) (oo rfl ?_)
 refine cw (db (by decide) (by decide) h2 b2 fun bZ h3 b3=>?_)
 refine jH (i:=0) cF rfl ?_
 refine qk g h3 b3 fun cC h4 oU=>hj _ _ ?_
 refine cw (db (by decide) (by decide) h4 oU fun dm h5 _=>ak.mk (hk _ (up _ _ ?_)))
 rw [e]; simpa using h5
theorem Qz {k:Int} {ps:List Tre} {B C:Tre} (ac7:k=3\/k=4) (AS:ps.length <= 900) (hp:eF v L pl (ps++[B,C])):hZ 180 v (.mk k x nn m a (ps++[B,C])) pl:=by
 intro b ao U bh R z vk cF h hb hk
 have e:(Tre.mk k x nn m a (ps++[B,C])).pr=[zw k].map bm++(iY x::([fy].map bm++(eE fG (ps.map Tre.pr)++([gd,gX].map bm++(B.pr++([lS].map bm++(C.pr++([ff].map bm++[])))))))):=by
  rw [Tre.fF]
  have e1:(ps++[B,C]).map (fun t=>(t.kind,t.pr))=(ps.map fun t=>(t.kind,t.pr))++[(B.kind,B.pr),(C.kind,C.pr)]:=by simp
  rw [e1]
  generalize hq:ps.map (fun t=>(t.kind,t.pr))=q
  have e3:ps.map Tre.pr=q.map (·.2):=by rw [<- hq,List.map_map]; rfl
  rw [e3]
  have el:(q++[(B.kind,B.pr),(C.kind,C.pr)]).length - 2=q.length:=by simp
  have el1:(q++[(B.kind,B.pr),(C.kind,C.pr)]).length - 1=q.length+1:=by simp
  rcases ac7 with rfl | rfl <;> simp [dH,zw,el,el1,qf]
 rw [e] at hb
 have hlen:=hp.len
 rw [dh,jf,List.length_singleton] at hlen
 obtain ⟨zm,uN⟩:=hp.app
 obtain ⟨p,q,Dp,⟨gB,_⟩,gC,_⟩:=uN.two
 have bT:pl ≠ []:=fun e=>by rw [e] at hlen; simp at hlen
 have hpB:pl[ps.length]?=some p:=by
  have:(pl.drop ps.length)[0]?=some p:=by rw [Dp]; rfl
  simpa using this
 have Yl:pl[ps.length+1]?=some q:=by
  have:(pl.drop ps.length)[1]?=some q:=by rw [Dp]; rfl
  simpa using this
 refine C8 (k:=k) (by omega) h hb (fun l ad h' e'=>hk ad (by rw [e']; exact h')) fun b4 aP aZ n4 m4 h2 b2 up=>?_
 intro j hj
 refine fC n4 m4 h2 (show _=some (.int .u8 k) from rfl) (eV (by omega) ?_)
 rw [cF.len,al,EJ]
 refine ⟨bw (by omega) (by omega),?_⟩
 have vC:((pl.length:Int) - 2)=((ps.length:Nat):Int):=by omega
 rw [vC]
 refine cw (db (by decide) (by decide) h2 b2 fun bZ h3 b3=>?_)
 refine lL (i:=0) (j:=ps.length) cF bT (by omega) (by omega) (iE _ _ _) rfl fun c=>?_
 rw [dJ]
 refine yT (.inr ⟨_,rfl⟩) zm (by omega) h3 b3 fun cC h4 oU=>?_
 refine nv (db (by decide) (by decide) h4 oU fun dm h5 b5=>?_)
 refine jH cF hpB ?_
 refine qk gB h5 b5 fun mi h6 b6=>?_
 refine cw (db (by decide) (by decide) h6 b6 fun iw h7 b7=>?_)
 rw [dr]
 refine ⟨bw (by omega) (by omega),?_⟩
 have uF:((ps.length:Nat):Int)+1=((ps.length+1:Nat):Int):=by omega
 rw [uF]
 refine jH cF Yl ?_
 refine qk gC h7 b7 fun tJ h8 b8=>hj _ _ ?_
 refine cw (db (by decide) (by decide) h8 b8 fun qL h9 _=>ak.mk (hk _ (up _ _ ?_)))
 rw [e]; simpa using h9
theorem QA {A:Tre} (hv:dA v L.length (cH L)) (hp:eF v L pl [A]) (hA:di A.kind=true):hZ 183 v (.mk 19 x nn m a [A]) pl:=by
 intro b ao U bh R z vk cF h hb hk
 have e:(Tre.mk 19 x nn m a [A]).pr=[wx].map bm++(gR A.kind 4 A.pr++[]):=by rw [Tre.fF]; simp [dH]
 rw [e] at hb
 obtain ⟨p,rfl,g,xA,MB,Mo⟩:=hp.one
 refine DV ?_
 unfold GP
 refine eX h fun b4 aP n4 m4 h1 up=>fC n4 m4 h1 (show _=some (.int .u8 19) from rfl) (oo rfl ?_)
 refine cw (db (by decide) (by decide) h1 hb fun aZ h2 b2=>?_)
 refine jH (i:=0) cF rfl ?_
 refine u4 (least:=4) hv MB Mo hA g h2 b2 fun bZ h3 _=>ak.mk (hk _ (up _ _ ?_))
 rw [e]; simpa using h3
def oI (lev:Nat):List (List UInt8 × Int):=match opsL.find? fun p=>p.1 == (lev:Int) with | some p=>p.2 | none=>[]
theorem Nl {k:Int} (hk:k ∈ sy):(∀ q ∈ oI (dD k),q.2=k->q=(ox k,k))/\(ox k,k) ∈ oI (dD k)/\(oI (dD k)).Nodup:=by
 simp only [sy,cD,List.not_mem_nil,or_false] at hk
 rcases hk with rfl | rfl | rfl | rfl | rfl | rfl | rfl | rfl <;> decide
theorem Rp {k:Int} (hk:k ∈ sy) (U:St):dz (some (.i,185)) (some AV.jq) opsV (.int .i64 (dD k:Nat)) false U=.val (.eZ ((oI (dD k)).map fun p=>(hY p).1) ((oI (dD k)).map fun p=>(hY p).2)):=by
 simp only [sy,cD,List.not_mem_nil,or_false] at hk
 rcases hk with rfl | rfl | rfl | rfl | rfl | rfl | rfl | rfl <;> rfl
theorem Fr.iter {o:Nat} {y:List (AV × AV) × Option (AV × AV)} (h:Fr b U ad) (n:o ≠ b) (k:U.iter o=some y):ad.iter o=some y:=by
 cases e:U.live o with
 | none=>simp [St.iter,e] at k
 | some x =>
   have:ad.live o=U.live o:=(h o x n e (by intro t ht; subst ht; simp [St.iter,e] at k)).trans e.symm
   unfold St.iter at k ⊢
   rw [this]; exact k
theorem y9 {o c:Nat} {y:List AV} {z:List (AV × AV) × Option (AV × AV)} (h:U.box c=some y) (k:U.iter o=some z):c ≠ o:=by
 rintro rfl
 unfold St.box at h; unfold St.iter at k
 split at h
 . rename_i e; simp [e] at k
 . rename_i e; simp [e] at k
 . cases h
theorem H4 {o c:Nat} {y:Tok} {z:List (AV × AV) × Option (AV × AV)} (h:U.tok c=some y) (k:U.iter o=some z):c ≠ o:=by
 rintro rfl
 unfold St.tok at h; unfold St.iter at k
 split at h
 . rename_i e; simp [e] at k
 . cases h
theorem PS.UM {o:Nat} {z:List (AV × AV) × Option (AV × AV)} {x:Live} (h:PS b v ao bh U) (hn:ao.live o=none) (ho:U.iter o=some z):PS b v ao bh (U.set o x):=by
 obtain ⟨⟨vl,h1,h2⟩,h3⟩:=h
 refine ⟨⟨vl,by rw [aN (y9 h1 ho)]; exact h1,?_⟩,fun c y hc hy ht=>?_⟩
 . refine ⟨?_,h2.z,h2.t,pq _⟩
   rcases h2.g with g | ⟨τ,r1,r2,r3⟩
   . exact .inl g
   . exact .inr ⟨τ,r1,by rw [fx (H4 r2 ho)]; exact r2,r3⟩
 . rw [cR,if_neg (fun e=>by subst e; rw [hn] at hy; cases hy)]
   exact h3 c y hc hy ht
theorem Ip {k:Int} {A:Tre} {rs:List Tre} (uL:k ∈ sy) (hrs:(k=25/\rs=[]/\fQ nn=true)\/(k ≠ 25/\∃ B,rs=[B]/\di B.kind=true)) (hv:dA v L.length (cH L)) (hp:eF v L pl (A::rs)) (hA:di A.kind=true):hZ 183 v (.mk k x nn m a (A::rs)) pl:=by
 intro b ao U bh R z vk cF h hb hk
 obtain ⟨q1,q2,q3⟩:=Nl uL
 have aeB:2 <= dD k/\dD k <= 8:=by
  simp only [sy,cD,List.not_mem_nil,or_false] at uL
  rcases uL with rfl | rfl | rfl | rfl | rfl | rfl | rfl | rfl <;> decide
 have hk8:dD k=8 ↔ k=25:=by
  simp only [sy,cD,List.not_mem_nil,or_false] at uL
  rcases uL with rfl | rfl | rfl | rfl | rfl | rfl | rfl | rfl <;> decide
 have hkT:di k=true:=by
  simp only [sy,cD,List.not_mem_nil,or_false] at uL
  rcases uL with rfl | rfl | rfl | rfl | rfl | rfl | rfl | rfl <;> decide
 have ac6:k ≠ 19:=by
  simp only [sy,cD,List.not_mem_nil,or_false] at uL
  omega
 have bT:ox k ≠ []:=by
  simp only [sy,cD,List.not_mem_nil,or_false] at uL
  rcases uL with rfl | rfl | rfl | rfl | rfl | rfl | rfl | rfl <;> decide
 obtain ⟨tl,sZ⟩:∃ tl,tl=if k=25 then [ov nn] else match rs with | [B]=>gR B.kind (dD k+1) B.pr | _=>[]:=⟨_,rfl⟩
 have e:(Tre.mk k x nn m a (A::rs)).pr=gR A.kind (if dD k=5 then 6 else dD k) A.pr++([ox k].map bm++tl):=by
  rw [Tre.fF,sZ]
  simp only [sy,cD,List.not_mem_nil,or_false] at uL
  rcases hrs with ⟨rfl,rfl,_⟩ | ⟨JY,B,rfl,_⟩
  . simp [dH,dD,ox]
  . rcases uL with rfl | rfl | rfl | rfl | rfl | rfl | rfl | rfl
    all_goals first
     | exact absurd rfl JY
     | simp [dH,dD]
 rw [e] at hb
 obtain ⟨p0,pr,rfl⟩:∃ p r,pl=p::r:=by
  have:=hp.len
  cases pl with
  | nil=>simp at this
  | cons p r=>exact ⟨p,r,rfl⟩
 obtain ⟨gA,xA,MB,Mo⟩:=hp.nd 0 p0 A rfl rfl
 refine DV ?_
 unfold GP
 refine eX h fun b4 aP n4 m4 h1 up=>fC n4 m4 h1 (show _=some (.int .u8 k) from rfl) (eV ac6 ?_)
 refine fC n4 m4 h1 (show _=some (.int .u8 k) from rfl) ?_
 obtain ⟨vl,gw⟩:=h1.ld
 refine xS (l:=[]) gw ?_
 rw [bu,DG hkT]
 intro j hj
 have body:j (.box b 0) vk (.box b4 0) (.int .i64 (dD k:Nat)) (.int .i64 ((if dD k=5 then 6 else dD k:Nat):Int)) aP:=by
  refine hj _ _ _ _ _ _ ?_
  refine jH (i:=0) cF rfl ?_
  refine u4 hv MB Mo hA gA h1 hb fun aZ h2 b2=>?_
  obtain ⟨vl2,adt⟩:=h2.ld
  have m4:=h2.fr.aS n4 m4
  have up:∀ l ad,PS b v aZ l ad->PS b v ao l ad:=fun l ad h'=>up l ad (h2.app h')
  have h2:=h2.BD
  simp only [bU,al]
  refine fV (dq adt rfl ?_)
  rw [Rp uL,al]
  have Q3:∀ (l:List (List UInt8 × Int)) fk,sF (some fk) (.eZ (l.map fun p=>(hY p).1) (l.map fun p=>(hY p).2))=.new .it none (.iter (l.map hY) none):=fun l fk=>by rw [<- zip_map]; rfl
  rw [Q3,ju]
  intro o ho
  rw [show NV.at o .it=AV.it o from rfl]
  have h3:=h2.mono (a7 ho (x:=.iter ((oI (dD k)).map hY) none))
  have it3:(aZ.new o (.iter ((oI (dD k)).map hY) none)).iter o=some ((oI (dD k)).map hY,none):=by simp
  have fo:aZ.live o=none:=ho.1
  generalize py:bh++gR A.kind (if dD k=5 then 6 else dD k) A.pr=tk at *
  refine ⟨fun mm w0 w2 w4 w6 w42 ad=>∃ (l2 iW:List (List UInt8 × Int)) (c2:Option (AV × AV)),w0=.box b 0/\w2=vk/\w4=.box b4 0/\w6=.int .i64 (dD k:Nat)/\w42=.it o/\ad.iter o=some (l2.map hY,c2)/\mm=l2.length/\(iW++l2).Perm (oI (dD k))/\PS b v aZ (tk++if (ox k,k) ∈ iW then [bm (ox k)] else []) ad,
   ⟨_,oI (dD k),[],none,rfl,rfl,rfl,rfl,rfl,it3,rfl,by simp,by simpa using h3⟩,?_⟩
  rintro mm w0 w2 w4 w6 w42 bZ ⟨l2,iW,c2,rfl,rfl,rfl,rfl,rfl,hit,rfl,FT,h4⟩
  refine Cx hit (fun hl=>?_) (fun p l3 k9=>?_)
  . subst hl
    rw [ia] at FT
    rw [if_pos (FT.mem_iff.2 q2)] at h4
    have oU:(tk++[bm (ox k)]++tl).length <= NT:=by simpa using b2
    simp only [bB,dJ,c7,al,bq]
    rcases hrs with ⟨AT,_,Yh⟩ | ⟨JY,B,hB,hBT⟩
    . have h8:=hk8.2 AT
      refine oo (by omega) (fC n4 m4 h4 (show _=some (.int .i64 nn) from rfl) ?_)
      rw [if_pos AT] at sZ
      rw [sZ] at oU
      refine pa Yh h4 oU fun dm h5 _=>ak.mk (hk _ (up _ _ ?_))
      rw [e,sZ,<- iM,py,<- iM]; exact h5
    . have h8:dD k ≠ 8:=fun e=>JY (hk8.1 e)
      subst hB
      rw [if_neg JY] at sZ
      simp only at sZ
      refine eV (by omega) ?_
      obtain ⟨q0,hq0,gB,xB,hxB,hkB⟩:∃ q0,(p0::pr)[1]?=some q0/\oM v q0 B/\∃ x,L[q0]?=some x/\x.kind=B.kind:=by
       have:=hp.len
       match pr,this with
       | [q0],_=>exact ⟨q0,rfl,hp.nd 1 q0 B rfl rfl⟩
      refine jH (i:=1) cF hq0 ?_
      rw [dr]
      refine ⟨bw (by omega) (by omega),?_⟩
      have uF:((dD k:Nat):Int)+1=((dD k+1:Nat):Int):=by omega
      rw [uF]
      rw [sZ] at oU
      refine u4 (rest:=[]) hv hxB hkB hBT gB h4 (by simpa using oU) fun dm h5 _=>ak.mk (hk _ (up _ _ ?_))
      rw [e,sZ,<- iM,py,<- iM]; exact h5
  . have he:kY (.it o) (bZ.set o (.iter (l3.map hY) (some (hY p))))=.val (.aF [(hY p).1,(hY p).2]):=by simp [kY]
    have h5:=h4.UM (x:=.iter (l3.map hY) (some (hY p))) fo hit
    have it5:(bZ.set o (.iter (l3.map hY) (some (hY p)))).iter o=some (l3.map hY,some (hY p)):=by simp
    have adh:o ≠ b:=fun e=>by
     subst e
     obtain ⟨sM,ads⟩:=h4.ld
     exact y9 ads hit rfl
    have Es:(iW++[p]++l3).Perm (oI (dD k)):=by
     rw [iM]
     exact (List.Perm.append_left iW k9).trans FT
    have hlen:l3.length < l2.length:=by rw [<- k9.length_eq]; simp
    have hnd:(iW++[p]++l3).Nodup:=Es.nodup_iff.2 q3
    have adk:p ∈ oI (dD k):=Es.mem_iff.1 (by simp)
    simp only [bB,dJ,c7,al,bH]
    rw [he]
    simp only [bB,dJ,c7,al,List.drop_succ_cons]
    refine fC n4 m4 h5 (show _=some (.int .u8 k) from rfl) ?_
    rw [show (hY p).2=.int .u8 p.2 from rfl,show (hY p).1=.str p.1 from rfl,bj,al]
    refine fI (fun Ym=>?_) fun Ym=>?_
    . have Dp:=q1 p adk Ym
      have FP:(ox k,k) ∉ iW:=fun hm=>by
       rw [<- Dp] at hm
       rw [List.nodup_append,List.nodup_append] at hnd
       exact hnd.1.2.2 p hm p (by simp) rfl
      rw [if_neg FP,ia] at h5
      have zm:p.1=ox k:=by rw [Dp]
      rw [zm]
      refine cw (db (ws:=[ox k]) (rest:=tl) (fun u hu=>by rw [jg] at hu; subst hu; exact bT) (by simp) h5.BD (by simpa using b2) fun mi h6 _=>?_)
      refine ⟨l3.length,hlen,l3,iW++[p],some (hY p),rfl,rfl,rfl,rfl,rfl,h6.fr.iter adh it5,rfl,Es,?_⟩
      rw [if_pos (by rw [<- Dp]; simp)]
      exact h5.app h6
    . refine ⟨l3.length,hlen,l3,iW++[p],some (hY p),rfl,rfl,rfl,rfl,rfl,it5,rfl,Es,?_⟩
      have:((ox k,k) ∈ iW++[p]) ↔ (ox k,k) ∈ iW:=by
       simp only [fB,jg]
       exact ⟨fun h=>h.resolve_right fun e=>Ym (by rw [<- e]),.inl⟩
      have e3:(if (ox k,k) ∈ iW++[p] then [bm (ox k)] else [])=if (ox k,k) ∈ iW then [bm (ox k)] else []:=by
       by_cases hm:(ox k,k) ∈ iW
       . rw [if_pos hm,if_pos (this.2 hm)]
       . rw [if_neg hm,if_neg fun h=>hm (this.1 h)]
      rw [e3]
      exact h5
 refine B1 (fI (fun h5=>?_) fun h5=>?_)
 . have Xy:dD k=5:=by omega
   rw [dr]
   refine ⟨bw (by omega) (by omega),?_⟩
   rw [if_pos Xy] at body
   have:((dD k:Nat):Int)+1=((6:Nat):Int):=by omega
   rw [this]; exact body
 . have Xy:¬ dD k=5:=by omega
   rw [if_neg Xy] at body
   exact body
end
end Go.Rip
namespace Go.Rip
open Go.Proofs Go.RowKit
theorem zF {v:AV} {l:List Nd} {n:Nat} {en:Int} {bn be bt:Nat} {U:St} {B:AV->Qr->St->Prop} {Kn:St->Prop} {Ke:Nat->St->Prop} {Kr:St->Prop} {Kp:AV->St->Prop} (I:Nat->List Nat->St->Prop) (J:Nat->St->Prop)
 (hv:dA v l.length (cH l)) (hn:n < l.length) (hlen:l.length <= 100000) (FC:en <= l.length)
 (zY:∀ o ks U,I o ks U->U.box bn=some [.int .i64 (n:Nat)]/\U.box be=some [.int .i64 en]/\U.box bt=some [v])
 (Ba:∀ o ks U L L',I o ks U->U.loop o=some L->I o ks (U.set o (.loop L')))
 (hJ:∀ o U L L',J o U->U.loop o=some L->J o (U.set o (.loop L')))
 (body:∀ (ks:List Nat) (fh:Nat) (x:Nd) (aP:St) (o:Nat) (L1:eG) (q:Qr),I o ks aP->l[fh]?=some x->(fh:Int) < en->0 < x.size->n < fh->ks.length < l.length->(∃ r,ee l en l.length (n+1)=ks++fh::r)->aP.loop o=some L1 ->
   (∀ aZ,I o (ks++[fh]) aZ->x.size <= 100000->aZ.loop o=some L1->q.n aZ)->(∀ aZ,J o aZ->aZ.loop o=some L1->q.r aZ)->B (.int .i64 (fh:Nat)) q aP)
 (fin:∀ ks aP o L,ks=ee l en l.length (n+1)->I o ks aP->aP.loop o=some L->Kn (aP.del o))
 (QG:∀ aP o L,J o aP->aP.loop o=some L->Kr (aP.del o))
 (h0:∀ o L,U.cY o->I o [] (U.new o (.loop L))):nq K 1 (.func (.func 155) [] [.box bn 0,.box be 0,.box bt 0]) U (fun v q U=>q.xU (fun U=>B v q U) U) Kn Ke Kr Kp:=by
 refine ⟨by kernel_rfl,fun o L ho Fw Md Y=>?_⟩
 have I1:=h0 o L ho
 have L8:=tW (U:=U) (b:=o) (L:=L)
 generalize U.new o (.loop L)=aP at *
 refine DT ?_
 unfold GN
 rw [fW (zY _ _ _ I1).1,dJ,bE,dr]
 refine ⟨bw (by omega) (by omega),?_⟩
 refine ⟨fun m v0 v2 v3 v5 ad=>∃ ks f p,m=l.length - p/\v0=.pX o/\v2=.box be 0/\v3=.box bt 0/\v5=.int .i64 (p:Nat)/\n < p/\p <= 300000/\l.length - p <= f/\ks++ee l en f p=ee l en l.length (n+1)/\I o ks ad/\∃ L1,ad.loop o=some L1/\L1.st .ready none=L/\L1.state=.ready/\L1.fe=none,
  ⟨_,[],l.length,n+1,rfl,rfl,rfl,rfl,by simp,by omega,by omega,by omega,rfl,I1,L,L8,by cases L; simp_all [eG.st],Fw,Md⟩,?_⟩
 clear I1 L8
 rintro m v0 v2 v3 v5 aZ ⟨ks,f,p,rfl,rfl,rfl,rfl,rfl,Yi,hp3,hf,gh,I2,L1,hU,fg,zp,zn⟩
 obtain ⟨k1,k2,k3⟩:=zY _ _ _ I2
 rw [fW k2,dJ,bE]
 simp only [bP,al,aU,aI]
 have stop:ee l en f p=[]->ak (GH o Kn Ke Kr Kp) (.aF []) aZ:=fun h=>by
  rw [h,ia] at gh
  refine ak.mk ⟨L1,hU,by rw [zp]; simp,?_⟩
  rw [zn]
  exact fin ks aZ o L1 gh I2 hU
 by_cases aO:(p:Int) < en
 . have k9:p < l.length:=by omega
   obtain ⟨x,hx⟩:∃ x,l[p]?=some x:=⟨l[p],by simp [k9]⟩
   cases f with
   | zero=>omega
   | succ f =>
   have uK:ee l en (f+1) p=if 0 < x.size then p::ee l en f (p+x.size.toNat) else []:=by
    simp only [ee,hx,aO,true_and]
   simp only [aO,da,gm,bQ,aC,bg,cV,pI k3,dJ,fi,lr]
   refine Ae hv hx fun r=>?_
   simp only [cU,aC,lr,cG,ib,List.drop,l9,fi,dO,aL,if_true,al,bR]
   refine ⟨fun hs=>?_,fun hs=>?_⟩
   . rw [if_pos hs] at uK
     simp only [gr,wA]
     refine Y _ _ _ L1 rfl hU fg ?_
     refine ⟨L1,hU,zp,?_⟩
     have I3:=Ba o _ _ L1 { L1 with state:=.busy } I2 hU
     have qD:ks.length < l.length:=by
      have:=vL l en l.length (n+1)
      rw [<- gh,uK] at this
      simp at this; omega
     refine body ks p x _ o { L1 with state:=.busy } _ I3 hx aO hs Yi qD ⟨_,by rw [<- gh,uK]⟩ eT (fun bZ I4 xM qY=>?_) fun bZ XE qY=>?_
     . refine ⟨_,qY,?_⟩
       have I5:=Ba o _ _ _ { L1 with state:=.ready,fe:=none } I4 qY
       obtain ⟨j1,j2,j3⟩:=zY _ _ _ I5
       simp only [bu,dR,al,cI,bq,bg,cV]
       rw [fW j3,dJ,bE]
       refine CV hv hx fun r=>?_
       simp only [cU,al,cG,ib,List.drop,oB,bE,dr]
       refine ⟨bw (by omega) (by omega),_,?_,ks++[p],f,p+x.size.toNat,rfl,rfl,rfl,rfl,?_,by omega,by omega,by omega,?_,I5,_,eT,by rw [<- fg]; rfl,rfl,rfl⟩
       . omega
       . congr 1; omega
       . rw [<- gh,uK]; simp
     . refine ⟨_,qY,?_⟩
       simp only [bu,dR,al,eA,bH]
       refine ak.mk ⟨_,eT,by simp,?_⟩
       exact QG _ o _ (hJ o _ _ _ XE qY) eT
   . rw [if_neg hs] at uK
     exact stop uK
 . simp only [aO,dN,show (false == true)=false from rfl,bV,aL,bJ,if_false,al,bq]
   refine stop ?_
   cases f with
   | zero=>rfl
   | succ f =>
     simp only [ee]
     split
     . rw [if_neg (fun h=>aO h.1)]
     . rfl
theorem Fp:∀ {ss:List mG} {ks:List Int},eu ks ss=true->∀ k ∈ ks,∃ s ∈ ss,s.c.is k=true
 | [],ks,h,k,hk=>by
   have:ks.isEmpty=true:=h
   rw [List.isEmpty_iff] at this
   rw [this] at hk; cases hk
 | s::ss,ks,h,k,hk=>by
   rw [eu] at h
   split at h
   . cases h
   . rename_i hm
     have nU:(ks.take (min (ks.length - (ss.map (·.least)).sum) s.na)).takeWhile s.c.is <+: ks:=(uc _).trans (List.take_prefix _ _)
     obtain ⟨r,hr⟩:=nU
     generalize hq:(ks.take (min (ks.length - (ss.map (·.least)).sum) s.na)).takeWhile s.c.is=q at *
     have bO:∀ k ∈ q,s.c.is k=true:=fun k hk=>by
      rw [<- hq] at hk
      have key:∀ l:List Int,k ∈ l.takeWhile s.c.is->s.c.is k=true:=fun l=>by
       induction l with
       | nil=>simp
       | cons c l ih =>
         simp only [pK]
         split
         . rename_i hc
           intro h
           rcases cD.1 h with rfl | h
           . exact hc
           . exact ih h
         . simp
      exact key _ hk
     rw [<- hr] at h hk
     rw [List.drop_left] at h
     rcases fB.1 hk with hk | hk
     . exact ⟨s,by simp,bO k hk⟩
     . obtain ⟨s',h1,h2⟩:=Fp h k hk
       exact ⟨s',by simp [h1],h2⟩
theorem Ra {c:Prop} [Decidable c] {a f:jK} {B:Option jK} {G:Prop} (h:(if c then some a else B)=some f) (h1:a=f->G) (h2:B=some f->G):G:=by
 split at h
 . exact h1 (Option.some.inj h)
 . exact h2 h
theorem QL {k:Int} {f:jK} (h:cx k=some f):∀ s ∈ f.kids,s.c.is 1=false:=by
 unfold cx at h
 repeat' (refine Ra h (fun h=>?_) (fun h=>?_))
 all_goals first
  | (subst h; simp [n6.is,p7,rR,uT,di,Bg]; done)
  | cases h
theorem Cu {t:Tre} (h:t.ok=true):∀ c ∈ t.kids,c.kind ≠ 1/\c.ok=true:=by
 cases t with
 | mk k x n m a ks =>
   obtain ⟨f,hf,_,h2,h3⟩:=Tre.Bt h
   intro c hc
   refine ⟨fun e=>?_,h3 c hc⟩
   obtain ⟨s,hs,hk⟩:=Fp h2 c.kind (List.mem_map_of_mem hc)
   rw [e,QL hf s hs] at hk
   cases hk
def p6 (k:Int):FuncId:=if p7 k=true then 180 else if rR k=true then 182 else if 17 <= k/\k <= 25 then 183 else if 9 <= k/\k <= 16 then 184 else if di k=true then 186 else 187
section
variable {b n:Nat} {U ao aP ad:St} {v:AV} {bh l rest:List Tx} {L:List Nd} {t:Tre}
theorem PS.gx {o:Nat} {z:eG} {aZ:St} (h:PS b v ao bh U) (hn:ao.live o=none) (ho:U.loop o=some z) (hs:∀ c,c ≠ o->aZ.live c=U.live c):PS b v ao bh aZ:=by
 obtain ⟨⟨vl,h1,h2⟩,h3⟩:=h
 refine ⟨⟨vl,by rw [dP (hs _ (aX h1 ho))]; exact h1,?_⟩,fun c y hc hy ht=>?_⟩
 . refine ⟨?_,h2.z,h2.t,pq _⟩
   rcases h2.g with g | ⟨τ,r1,r2,r3⟩
   . exact .inl g
   . exact .inr ⟨τ,r1,by rw [jB (hs _ (oz r2 ho))]; exact r2,r3⟩
 . rw [hs c fun e=>by subst e; rw [hn] at hy; cases hy]
   exact h3 c y hc hy ht
theorem PS.other {vk:AV} {e sz m:Nat} {lk:List AV} (h:PS b v ao bh U) (he:e ≠ 51) (g:eo ao U vk e sz m lk) (k:∀ c x,(∀ n l,vk ≠ .vec n (.own c) l)->U.live c=some x->ad.live c=some x):PS b v ao bh ad:=by
 obtain ⟨⟨vl,h1,h2⟩,h3⟩:=h
 refine ⟨⟨vl,(lA g.g k).1 h1,?_⟩,fun c y hc hy ht=>?_⟩
 . refine ⟨?_,h2.z,h2.t,pq _⟩
   rcases h2.g with g' | ⟨τ,r1,r2,r3⟩
   . exact .inl g'
   . refine .inr ⟨τ,r1,?_,r3⟩
     cases e':U.live τ with
     | none=>simp [St.tok,e'] at r2
     | some y =>
       have:=k τ y (fun n' l' hv=>by
        rcases g.g with ⟨_,_,g⟩ | ⟨sN,g,ht,_⟩
        . rw [g] at hv; cases hv
        . rw [g] at hv; cases hv
          rw [r2] at ht
          simp only [gK,Tok.mk.injEq] at ht
          exact he ht.2.1.symm) e'
       rw [jB (this.trans e'.symm)]; exact r2
 . refine k c y (fun n' l' hv=>?_) (h3 c y hc hy ht)
   rw [g.t _ _ _ hv] at hy; cases hy
end
end Go.Rip
namespace Go.Rip
open Go.Proofs Go.RowKit
section
variable {b n:Nat} {U ao aP ad:St} {v:AV} {bh l rest:List Tx} {L:List Nd} {t:Tre}
theorem PS.bW {c:Nat} {y z:List AV} (h:PS b v ao bh U) (nc:c ≠ b) (hn:ao.live c=none) (hc:U.box c=some y):PS b v ao bh (U.set c (.box z)):=by
 obtain ⟨⟨vl,h1,h2⟩,h3⟩:=h
 refine ⟨⟨vl,by rw [aN nc.symm]; exact h1,?_⟩,fun c' y' wK Bd ht=>?_⟩
 . refine ⟨?_,h2.z,h2.t,pq _⟩
   rcases h2.g with g | ⟨τ,r1,r2,r3⟩
   . exact .inl g
   . exact .inr ⟨τ,r1,by rw [fx (dL hc r2).symm]; exact r2,r3⟩
 . rw [cR,if_neg fun e=>by subst e; rw [hn] at Bd; cases Bd]
   exact h3 c' y' wK Bd ht
theorem U0 {s:Tre} {pl:List Nat} (hv:Sl v L) (hL:L.length <= 1000) (hz:∀ (i:Nat) (y:Nd),L[i]?=some y->y.size <= 100000) (hs:et L n s) (k9:pl=cE (n+1) s.kids) (hf:hZ (p6 s.kind) v s pl):oM v n s:=by
 intro b ao U bh R h hb hk
 obtain ⟨x,hx,si,Th,hxt,hxn,hxm,IG⟩:=hs.mV
 have hle:=hs.le
 have pw:=s.dB
 have XM:cG x=xj s x.size:=by unfold cG xj; rw [si,hxt,hxn,hxm,IG]
 have A8:ee L ((n:Int)+x.size) L.length (n+1)=pl:=by
  rw [k9,Th]; exact sk hs
 refine NW ?_
 unfold NU
 obtain ⟨vl,gw⟩:=h.ld
 simp only [bU,al]
 refine fV (fV (fV (dq gw rfl ?_)))
 refine CV hv.s hx fun r=>?_
 rw [vb]
 refine ⟨by simp [cG],?_⟩
 rw [show (cG x++r).take 6=cG x from rfl,cS]
 intro b4 gu
 have m4:(U.new b4 (.box [AV.int .u8 0,AV.str [],AV.int .i64 0,AV.int .i64 0,AV.int .i64 0,AV.int .i64 0])).box b4=some [AV.int .u8 0,AV.str [],AV.int .i64 0,AV.int .i64 0,AV.int .i64 0,AV.int .i64 0]:=aK
 rw [cX m4]
 refine ⟨⟨rfl,rfl,by simp⟩,?_⟩
 rw [show aB [AV.int .u8 0,AV.str [],AV.int .i64 0,AV.int .i64 0,AV.int .i64 0,AV.int .i64 0] 0 (au (.agg (cG x)))=cG x from rfl]
 have e4:cN U ((U.new b4 (.box [AV.int .u8 0,AV.str [],AV.int .i64 0,AV.int .i64 0,AV.int .i64 0,AV.int .i64 0])).set b4 (.box (cG x))):=(a7 gu).set gu.1
 have m4:((U.new b4 (.box [AV.int .u8 0,AV.str [],AV.int .i64 0,AV.int .i64 0,AV.int .i64 0,AV.int .i64 0])).set b4 (.box (cG x))).box b4=some (cG x):=aW
 have h4:=h.mono e4
 have gw:=e4.aS gw
 have n4:b4 ≠ b:=fun e=>by subst e; exact absurd gu.1 (bG (by assumption:U.box b4=some [v,vl,opsV]))
 generalize (U.new b4 _).set b4 _=aP at *
 have up:∀ l ad,PS b v aP l ad->PS b v ao l ad:=fun l ad h'=>h4.app h'
 have h4:=h4.BD
 rw [cS]
 intro b5 iH
 have m5:(aP.new b5 (.box [AV.aw])).box b5=some [.aw]:=aK
 have ra:=iH.bK m4
 have n5:b5 ≠ b:=(iH.bK gw).symm
 have e5:=a7 iH (x:=.box [AV.aw])
 have h5:=h4.mono e5
 have gw:=e5.aS gw
 have m4:=e5.aS m4
 generalize aP.new b5 (.box [AV.aw])=aZ at *
 refine fV ?_
 rw [pQ gw]
 refine ⟨by simp,?_⟩
 rw [show ([v,vl,opsV].drop 0).take 1=[v] from rfl]
 refine p8 (n:=n) hv.s hx (bw (by omega) (by omega)) fun bn be bt bZ d1 d2 d3 f1 f2 f3 q1 q2 q3 e3=>?_
 rw [bu]
 have h6:=h5.mono e3
 have n4n:b4 ≠ bn:=fun e=>bG m4 (e ▸ f1)
 have n4e:b4 ≠ be:=fun e=>bG m4 (e ▸ f2)
 have n4t:b4 ≠ bt:=fun e=>bG m4 (e ▸ f3)
 have YH:b5 ≠ bn:=fun e=>bG m5 (e ▸ f1)
 have YG:b5 ≠ be:=fun e=>bG m5 (e ▸ f2)
 have YI:b5 ≠ bt:=fun e=>bG m5 (e ▸ f3)
 have m4:=e3.aS m4
 have m5:=e3.aS m5
 have fin:∀ (iw:St) (vk:AV),iw.box b4=some (cG x)->iw.box b5=some [vk]->dA vk pl.length (dF pl)->PS b v aP bh iw ->
  (af (some 0) (.box b4 0)).wp K iw (fun eU U =>
  (ah (some (false,1)) eU U).wp K U (fun eR U =>
  ae K 179 [eR] U (ag (fun gn U =>
  av gn (
   (ah (some (true,6)) (.box b4 0) U).wp K U (fun gp U =>
   (ah (some (false,1)) (.box b5 0) U).wp K U (fun v37 U =>
   ae K 180 [.box b 0,gp,v37] U (ag (fun iv U =>
   ak R (AV.aF []) U) (aa R))) (aa R)) (aa R)) (
   (af (some 0) (.box b4 0)).wp K U (fun v40 U =>
   (ah (some (false,1)) v40 U).wp K U (fun jE U =>
   ae K 181 [jE] U (ag (fun jF U =>
   av jF (
    (ah (some (true,6)) (.box b4 0) U).wp K U (fun mb U =>
    (ah (some (false,1)) (.box b5 0) U).wp K U (fun mc U =>
    ae K 182 [.box b 0,mb,mc] U (ag (fun v46 U =>
    ak R (AV.aF []) U) (aa R))) (aa R)) (aa R)) (
    (af (some 0) (.box b4 0)).wp K U (fun sJ U =>
    (ah (some (false,1)) sJ U).wp K U (fun v49 U =>
    (ar .geq (BT.mk false false false none false) true v49 (AV.int .u8 17)).wp K U (fun ig U =>
    ai K (aH ig true) (af (some 0) (.box b4 0)) (fun nO =>
    ai K (aH ig true) (ah (some (false,1)) nO U) (fun v53 =>
    ai K (aH ig true) (ar .leq (BT.mk false false false none false) true v53 (AV.int .u8 25)) (fun mP =>
    (bp ig mP (AV.bool false)).wp K U (fun mf U =>
    av mf (
     (ah (some (true,6)) (.box b4 0) U).wp K U (fun nP U =>
     (ah (some (false,1)) (.box b5 0) U).wp K U (fun nQ U =>
     ae K 183 [.box b 0,nP,nQ] U (ag (fun v59 U =>
     ak R (AV.aF []) U) (aa R))) (aa R)) (aa R)) (
     (af (some 0) (.box b4 0)).wp K U (fun ly U =>
     (ah (some (false,1)) ly U).wp K U (fun sK U =>
     (ar .geq (BT.mk false false false none false) true sK (AV.int .u8 9)).wp K U (fun pW U =>
     ai K (aH pW true) (af (some 0) (.box b4 0)) (fun pe =>
     ai K (aH pW true) (ah (some (false,1)) pe U) (fun yr =>
     ai K (aH pW true) (ar .leq (BT.mk false false false none false) true yr (AV.int .u8 16)) (fun rj =>
     (bp pW rj (AV.bool false)).wp K U (fun tD U =>
     av tD (
      (ah (some (true,6)) (.box b4 0) U).wp K U (fun v70 U =>
      (ah (some (false,1)) (.box b5 0) U).wp K U (fun BY U =>
      ae K 184 [.box b 0,v70,BY] U (ag (fun v72 U =>
      ak R (AV.aF []) U) (aa R))) (aa R)) (aa R)) (
      (af (some 0) (.box b4 0)).wp K U (fun pg U =>
      (ah (some (false,1)) pg U).wp K U (fun v75 U =>
      ae K 185 [v75] U (ag (fun v76 U =>
      av v76 (
       (ah (some (true,6)) (.box b4 0) U).wp K U (fun zL U =>
       (ah (some (false,1)) (.box b5 0) U).wp K U (fun D6 U =>
       ae K 186 [.box b 0,zL,D6] U (ag (fun v80 U =>
       ak R (AV.aF []) U) (aa R))) (aa R)) (aa R)) (
       (ah (some (true,6)) (.box b4 0) U).wp K U (fun v28 U =>
       (ah (some (false,1)) (.box b5 0) U).wp K U (fun dE U =>
       ae K 187 [.box b 0,v28,dE] U (ag (fun v30 U =>
       ak R (AV.aF []) U) (aa R))) (aa R)) (aa R))) (aa R))) (aa R)) (aa R))) (aa R))))) (aa R)) (aa R)) (aa R))) (aa R))))) (aa R)) (aa R)) (aa R))) (aa R))) (aa R)) (aa R))) (aa R))) (aa R)) (aa R):=by
  intro iw vk m4 m5 cF h7
  have call:∀ f,p6 s.kind=f->(ah (some (true,6)) (.box b4 0) iw).wp K iw (fun gp U=>(ah (some (false,1)) (.box b5 0) U).wp K U (fun v37 U=>ae K f [.box b 0,gp,v37] U (ag (fun iv U=>ak R (AV.aF []) U) (aa R))) (aa R)) (aa R):=by
   intro f XX
   rw [pQ m4]
   refine ⟨by simp [cG],?_⟩
   rw [show ((cG x).drop 0).take 6=cG x from rfl]
   refine dq m5 rfl ?_
   rw [XM,<- XX]
   exact hf _ _ _ _ _ _ _ cF h7 hb fun ad h'=>ak.mk (hk ad (up _ _ h'))
  have MT:∀ {K':AV->St->Prop} {Kp:AV->St->Prop},K' (.int .u8 s.kind) iw->(af (some 0) (.box b4 0)).wp K iw (fun eU U=>(ah (some (false,1)) eU U).wp K U K' Kp) Kp:=by
   intro K' Kp hK
   refine fV (dq m4 (show _=AV.int .u8 x.kind::_ from rfl) ?_)
   rw [si]; exact hK
  refine MT ((Bx s.kind).go ?_)
  cases c1:p7 s.kind with
  | true=>exact df (call 180 (by unfold p6; rw [if_pos c1]))
  | false =>
  refine cO (MT ((Bz s.kind).go ?_))
  cases c2:rR s.kind with
  | true=>exact df (call 182 (by unfold p6; rw [if_neg (by simp [c1]),if_pos c2]))
  | false =>
  refine cO (MT ?_)
  have SM:p6 s.kind=if 17 <= s.kind/\s.kind <= 25 then 183 else if 9 <= s.kind/\s.kind <= 16 then 184 else if di s.kind=true then 186 else 187:=by
   unfold p6; rw [if_neg (by simp [c1]),if_neg (by simp [c2])]
  have rng:∀ (lo hi:Int) (A B:AV->St->Prop),(lo <= s.kind/\s.kind <= hi->A (.bool true) iw)->(¬ (lo <= s.kind/\s.kind <= hi)->B (.bool false) iw) ->
   (ar .geq (BT.mk false false false none false) true (.int .u8 s.kind) (AV.int .u8 lo)).wp K iw (fun ig U =>
   ai K (aH ig true) (af (some 0) (.box b4 0)) (fun nO =>
   ai K (aH ig true) (ah (some (false,1)) nO U) (fun v53 =>
   ai K (aH ig true) (ar .leq (BT.mk false false false none false) true v53 (AV.int .u8 hi)) (fun mP =>
   (bp ig mP (AV.bool false)).wp K U (fun mf U=>av mf (A mf U) (B mf U)) (aa R))))) (aa R):=by
   intro lo hi A B hA hB
   rw [fO,al]
   by_cases h1:lo <= s.kind
   . simp only [h1,da,aU,gm,aI,bQ]
     refine gV (dX m4 (show _=AV.int .u8 x.kind::_ from rfl) ?_)
     rw [si,kG,aC]
     simp only [aL,if_true,al]
     by_cases h2:s.kind <= hi
     . simp only [h2,da]; exact df (hA ⟨h1,h2⟩)
     . simp only [h2,dN]; exact cO (hB fun h3=>h2 h3.2)
   . simp only [h1,dN,aU,show (false == true)=false from rfl,aI,bV,aL,bJ,if_false,al]
     exact cO (hB fun h3=>h1 h3.1)
  refine rng 17 25 _ _ (fun h1=>call 183 (by rw [SM,if_pos h1])) fun h1=>MT (rng 9 16 _ _ (fun h2=>call 184 (by rw [SM,if_neg h1,if_pos h2])) fun h2=>MT ((vX s.kind).go ?_))
  cases c3:di s.kind with
  | true=>exact df (call 186 (by rw [SM,if_neg h1,if_neg h2,if_pos c3]))
  | false=>exact cO (call 187 (by rw [SM,if_neg h1,if_neg h2,if_neg (by simp [c3])]))
 refine zF (n:=n) (en:=(n:Int)+x.size)
  (fun o ks ad=>(ad.box bn=some [.int .i64 (n:Nat)]/\ad.box be=some [.int .i64 ((n:Int)+x.size)]/\ad.box bt=some [v])/\ad.box b4=some (cG x)/\(∃ vk,ad.box b5=some [vk]/\eo aP ad vk 3 1 ks.length (dF ks))/\aP.live o=none/\PS b v aP bh ad)
  (fun _ _=>False) hv.s (by omega) (by omega) (by omega)
  (fun o ks ad hI=>hI.1) (fun o ks ad L0 L' hI ho=>?_) (fun o ad L0 L' hJ ho=>hJ) (fun ks fh y ad o L1 q hI hy aO abp Mw qD nU hU Bb FY=>?_) (fun ks ad o L0 gh hI Dc=>?_) (fun ad o L0 hJ Dc=>hJ.elim) (fun o L0 ho=>?_)
 . obtain ⟨⟨i1,i2,i3⟩,i4,⟨vk,i5,i6⟩,i7,i8⟩:=hI
   have kb:∀ {c y},ad.box c=some y->(ad.set o (.loop L')).box c=some y:=fun h=>by rw [aN (aX h ho)]; exact h
   exact ⟨⟨kb i1,kb i2,kb i3⟩,kb i4,⟨vk,kb i5,i6.loop ho (i6.ex.set i7)⟩,i7,i8.gx i7 ho fun c hc=>by rw [cR,if_neg hc]⟩
 . obtain ⟨⟨i1,i2,i3⟩,i4,⟨vk,i5,i6⟩,i7,i8⟩:=hI
   refine dq i5 rfl ?_
   refine EG rfl rfl ?_
   refine BZ i6 (m:=1) (l2:=[.int .i64 (fh:Nat)]) rfl rfl (by omega) (by omega) fun dm v' g2 k2=>?_
   have kb:∀ {c y},ad.box c=some y->dm.box c=some y:=fun h=>(lA i6.g k2).1 h
   have kl:∀ {c L},ad.loop c=some L->dm.loop c=some L:=fun h=>(lA i6.g k2).2 h
   have i8:=i8.other (by decide) i6 k2
   have lf:v'.cQ=true/\au v'=[v']:=by
    rcases g2.g with ⟨h0,_,_⟩ | ⟨τ,r1,_,_⟩
    . omega
    . rw [r1]; exact ⟨rfl,rfl⟩
   have i5:=kb i5
   rw [cX i5]
   refine ⟨⟨lf.1,by rw [lf.2]; rfl,by simp⟩,?_⟩
   have i8':PS b v aP bh (dm.set b5 (.box (aB [vk] 0 (au v')))):=i8.bW n5 iH.1 i5
   refine Bb _ ⟨⟨?_,?_,?_⟩,?_,⟨v',?_,?_⟩,i7,i8'⟩ ?_ ?_
   . rw [aN YH.symm]; exact kb i1
   . rw [aN YG.symm]; exact kb i2
   . rw [aN YI.symm]; exact kb i3
   . rw [aN ra]; exact kb i4
   . rw [aW,lf.2]; rfl
   . have:eo aP (dm.set b5 (.box (aB [vk] 0 (au v')))) v' 3 1 (ks.length+1) (dF ks++[.int .i64 (fh:Nat)]):=by
      refine ⟨?_,g2.z,g2.t,g2.ex.set iH.1⟩
      rcases g2.g with g | ⟨τ,r1,r2,r3⟩
      . exact .inl g
      . exact .inr ⟨τ,r1,by rw [fx (dL i5 r2).symm]; exact r2,r3⟩
     simpa [dF] using this
   . exact hz _ _ hy
   . rw [dG]; exact kl hU
     rw [cR,if_neg (aX i5 (kl hU)).symm]
 . obtain ⟨⟨i1,i2,i3⟩,i4,⟨vk,i5,i6⟩,i7,i8⟩:=hI
   have kb:∀ {c y},ad.box c=some y->(ad.del o).box c=some y:=fun h=>by rw [eM (aX h Dc)]; exact h
   have i8:=i8.gx (aZ:=ad.del o) i7 Dc fun c hc=>by rw [jd,if_neg hc]
   rw [A8] at gh
   subst gh
   exact fin _ vk (kb i4) (kb i5) i6.sl i8
 . have e:=a7 ho (x:=.loop L0)
   exact ⟨⟨e.aS q1,e.aS q2,e.aS q3⟩,e.aS m4,⟨.aw,e.aS m5,eo.nil ((e5.trans e3).trans e)⟩,(e5.trans e3).fresh ho.1,h6.mono e⟩
end
end Go.Rip
namespace Go.Rip
open Go.Proofs Go.RowKit
section
variable {v:AV} {L:List Nd}
theorem Xp {s:Tre} {pl:List Nat} (hv:dA v L.length (cH L)) (h9:s.flat.length <= 900) (ho:s.ok=true) (h1:s.kind ≠ 1) (hp:eF v L pl s.kids):hZ (p6 s.kind) v s pl:=by
 cases s with
 | mk k x nn m a ks =>
   obtain ⟨fo,jO,g1,g2,g3⟩:=Tre.Bt ho
   obtain ⟨f1,f2,f3,f4,f5,f6⟩:=rY g1
   have hlen:(Tre.bA ks).length+1=(Tre.mk k x nn m a ks).flat.length:=by rw [Tre.fP]; simp
   have qD:ks.length <= 900:=by have:=Tre.oZ ks; omega
   have hp:eF v L pl ks:=hp
   have pv:k ≠ 1:=h1
   have hk:(k=2\/(k=3\/k=4))\/k=5\/(k=6\/k=7)\/k=8\/k=9\/k=10\/(k=11\/k=15)\/k=12\/k=13\/k=14\/k=16\/(k ∈ sy/\k ≠ 25)\/k=19\/k=25\/k=26\/(k=27\/k=28\/k=29\/k=30)\/k=31\/k=32\/k=33\/k=34\/k=35\/k=36\/k=37:=by
    by_cases hr:2 <= k/\k <= 37
    . simp only [sy,cD,List.not_mem_nil,or_false]; omega
    . exfalso
      unfold cx at jO
      rw [if_neg (by omega),if_neg (by omega),if_neg (by omega),if_neg (by omega),if_neg (by omega),if_neg (by omega),if_neg (by omega),if_neg (by omega),if_neg (by omega),if_neg (by omega),if_neg (by omega),if_neg (by omega),if_neg (by omega),if_neg (by omega),if_neg (by omega),if_neg (by omega),if_neg (by omega),if_neg (by omega),if_neg (by omega),if_neg (by omega),if_neg (by omega)] at jO
      cases jO
   have nil:eu (ks.map Tre.kind) []=true->ks=[]:=fun h=>by
    have:(ks.map Tre.kind).isEmpty=true:=h
    simpa using this
   have term:∀ {c:Tre},n6.term.is c.kind=true->di c.kind=true:=fun h=>h
   rcases hk with (rfl | hk) | rfl | hk | rfl | rfl | rfl | hk | rfl | rfl | rfl | rfl | ⟨hk,AT⟩ | rfl | rfl | rfl | hk | rfl | rfl | rfl | rfl | rfl | rfl | rfl
   . obtain rfl:(⟨true,false,false,[⟨.type,1,1⟩]⟩:jK)=fo:=by simpa [cx] using jO
     obtain ⟨A,rfl,_⟩:=rB g2
     exact Hy hp
   . have uH:fo=⟨true,false,false,[⟨.kind 5,0,900⟩,⟨.base,1,1⟩,⟨.term,1,1⟩]⟩:=by rcases hk with rfl | rfl <;> simpa [cx] using jO.symm
     subst uH
     obtain ⟨ps,B,C,rfl,_,_,_,_⟩:=Bj (by omega) g2
     have:p6 k=180:=by rcases hk with rfl | rfl <;> rfl
     show hZ (p6 k) _ _ _
     rw [this]
     exact Qz hk (by simp at qD; omega) hp
   . obtain rfl:(⟨true,false,false,[⟨.type,1,1⟩]⟩:jK)=fo:=by simpa [cx] using jO
     obtain ⟨A,rfl,_⟩:=rB g2
     exact JE hp
   . have uH:fo=⟨false,true,false,[]⟩:=by rcases hk with rfl | rfl <;> simpa [cx] using jO.symm
     subst uH
     obtain rfl:=nil g2
     have:p6 k=182:=by rcases hk with rfl | rfl <;> rfl
     show hZ (p6 k) _ _ _
     rw [this]
     exact LO hk f3
   . obtain rfl:(⟨false,false,false,[⟨.base,2,900⟩]⟩:jK)=fo:=by simpa [cx] using jO
     obtain ⟨hl,_⟩:=Kh g2
     obtain ⟨ps,B,rfl⟩:=lM (l:=ks) (by omega)
     exact JC (by simp at qD; omega) hp
   . obtain rfl:(⟨false,false,false,[⟨.term,2,900⟩]⟩:jK)=fo:=by simpa [cx] using jO
     obtain ⟨hl,hc⟩:=Kh g2
     match ks,hl with
     | A::ts,_=>exact QD (by simp at qD; omega) hv hp fun t ht=>hc t ht
   . obtain rfl:(⟨false,false,false,[⟨.term,3,3⟩]⟩:jK)=fo:=by simpa [cx] using jO
     obtain ⟨A,B,C,rfl,hA,hB,hC⟩:=abv g2
     exact UC hv hp hA hB hC
   . have uH:fo=⟨false,false,false,[⟨.term,2,2⟩]⟩:=by rcases hk with rfl | rfl <;> simpa [cx] using jO.symm
     subst uH
     obtain ⟨A,B,rfl,hA,hB⟩:=Kg g2
     rcases hk with rfl | rfl
     . exact Fl (k:=11) (w:=lz) (u:=uj) (by simp) hv hp hA hB
     . exact Fl (k:=15) (w:=kM) (u:=fZ) (by simp) hv hp hA hB
   . obtain rfl:(⟨true,true,true,[⟨.term,1,1⟩]⟩:jK)=fo:=by simpa [cx] using jO
     obtain ⟨A,rfl,hA⟩:=rB g2
     exact QB f3 f4 hv hp hA
   . obtain rfl:(⟨true,false,false,[⟨.term,2,2⟩]⟩:jK)=fo:=by simpa [cx] using jO
     obtain ⟨A,B,rfl,hA,hB⟩:=Kg g2
     exact JD hv hp hA hB
   . obtain rfl:(⟨true,true,false,[⟨.term,1,1⟩]⟩:jK)=fo:=by simpa [cx] using jO
     obtain ⟨A,rfl,hA⟩:=rB g2
     exact Hz f3 hv hp hA
   . obtain rfl:(⟨true,false,false,[⟨.term,1,1⟩]⟩:jK)=fo:=by simpa [cx] using jO
     obtain ⟨A,rfl,hA⟩:=rB g2
     exact QC hv hp hA
   . have uH:fo=⟨false,false,false,[⟨.term,2,2⟩]⟩:=by
      simp only [sy,cD,List.not_mem_nil,or_false] at hk
      rcases hk with rfl | rfl | rfl | rfl | rfl | rfl | rfl | rfl
      all_goals first
       | exact absurd rfl AT
       | simpa [cx] using jO.symm
     subst uH
     obtain ⟨A,B,rfl,hA,hB⟩:=Kg g2
     have:p6 k=183:=by
      simp only [sy,cD,List.not_mem_nil,or_false] at hk
      rcases hk with rfl | rfl | rfl | rfl | rfl | rfl | rfl | rfl <;> rfl
     show hZ (p6 k) _ _ _
     rw [this]
     exact Ip hk (.inr ⟨AT,B,rfl,hB⟩) hv hp hA
   . obtain rfl:(⟨false,false,false,[⟨.term,1,1⟩]⟩:jK)=fo:=by simpa [cx] using jO
     obtain ⟨A,rfl,hA⟩:=rB g2
     exact QA hv hp hA
   . obtain rfl:(⟨false,true,false,[⟨.term,1,1⟩]⟩:jK)=fo:=by simpa [cx] using jO
     obtain ⟨A,rfl,hA⟩:=rB g2
     exact Ip (k:=25) (rs:=[]) (by decide) (.inl ⟨rfl,rfl,f3⟩) hv hp hA
   . obtain rfl:(⟨false,true,false,[]⟩:jK)=fo:=by simpa [cx] using jO
     obtain rfl:=nil g2
     exact QF f3
   . have uH:fo=⟨false,false,false,[]⟩:=by rcases hk with rfl | rfl | rfl | rfl <;> simpa [cx] using jO.symm
     subst uH
     obtain rfl:=nil g2
     rcases hk with rfl | rfl | rfl | rfl
     . exact sR (k:=27) (w:=du) (by simp)
     . exact sR (k:=28) (w:=dC) (by simp)
     . exact sR (k:=29) (w:=fA) (by simp)
     . exact sR (k:=30) (w:=gY) (by simp)
   . obtain rfl:(⟨true,false,false,[]⟩:jK)=fo:=by simpa [cx] using jO
     obtain rfl:=nil g2
     exact LQ
   . obtain rfl:(⟨true,false,false,[]⟩:jK)=fo:=by simpa [cx] using jO
     obtain rfl:=nil g2
     exact QE
   . obtain rfl:(⟨true,false,false,[]⟩:jK)=fo:=by simpa [cx] using jO
     obtain rfl:=nil g2
     exact LR
   . exact LP (by omega) hp
   . obtain rfl:(⟨false,false,false,[⟨.kind 37,1,900⟩,⟨.term,1,1⟩]⟩:jK)=fo:=by simpa [cx] using jO
     obtain ⟨ps,B,rfl,hl,_,hB⟩:=Ki (by omega) g2
     exact UD (by simp at qD; omega) hl hv hp hB
   . obtain rfl:(⟨false,false,false,[⟨.term,1,1⟩,⟨.kind 37,1,1⟩,⟨.term,1,1⟩]⟩:jK)=fo:=by simpa [cx] using jO
     obtain ⟨A,B,C,rfl,hA,_,hC⟩:=UO g2
     exact HA hv hp hA hC
   . obtain rfl:(⟨true,false,false,[]⟩:jK)=fo:=by simpa [cx] using jO
     obtain rfl:=nil g2
     exact LS
theorem Gq (hv:Sl v L) (hL:L.length <= 1000) (hz:∀ (i:Nat) (y:Nd),L[i]?=some y->y.size <= 100000):∀ (N:Nat) (s:Tre) (n:Nat),s.flat.length <= N->et L n s->s.flat.length <= 900->s.ok=true->s.kind ≠ 1->oM v n s
 | 0,s,n,hN,_,_,_,_=>by have:=s.dB; omega
 | N+1,s,n,hN,hs,h9,ho,h1=>by
   have hk:=Cu ho
   have Dg:=lE s
   refine U0 hv hL hz hs rfl (Xp hv.s h9 ho h1 ⟨ma _ _,fun i q t hq ht=>?_⟩)
   obtain ⟨u,hu,Tc⟩:=rI hs.kids hq
   rw [ht] at hu
   obtain rfl:t=u:=by simpa using hu
   have hm:=fj ht
   have aO:=Tre.Bi hm
   obtain ⟨k1,k2⟩:=hk t hm
   obtain ⟨x,hx,si,_⟩:=Tc.mV
   exact ⟨Gq hv hL hz N t q (by omega) Tc (by omega) k2 k1,x,hx,si⟩
end
end Go.Rip
