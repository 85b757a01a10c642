/- Lemmas for the proof: no conditions. -/
import Derived.Test.YtnfpmiiopiinbaaGreatDoorRipZz
import Derived.Test.YtnfpmiiopiinbaaGreatDoorRipYg
set_option linter.unusedVariables false
set_option linter.unusedSimpArgs false
set_option linter.loopingSimpArgs false
namespace Go.Rip
open Go.Proofs Go.RowKit
section
variable {b n:Nat} {U ar aS ad:St} {v:AV} {bB l rest:List Tx} {L:List Nd} {t:Tre} {x:aG} {nn m a:Int} {pl:List Nat}
theorem sZ {C:de} {K':AV->St->Prop} {Kp:AV->St->Prop} {mm:Nat} {ks vs ks' vs':List AV} {k:Int} {y:AV} {ty:TypeId} (h:U.mp mm=some (ks,vs)) (hf:ng .i (.int .u8 k) ks 0=some none) (hi:iH (.int .u8 k) y ks vs=(ks',vs')) :
 (eB (some (.i,ty)) (.mp mm) (.int .u8 k) y U).wp C U K' Kp=K' (.aK []) (U.set mm (.mp ks' vs')):=by
 simp only[eB,h,hf,rn,hi]; rfl
theorem W2 (hn:dV nn=true):km 186 v (.mk 26 x nn m a []) pl:=by
 intro b ar U bB R z vk dU h hb hk;have e:(Tre.mk 26 x nn m a []).pr=[jh nn]:=by rw[Tre.cG]; simp[aV]
 rw[e]at hb;refine sf ?_;unfold vW;refine gG h λ b4 aS n4 m4 h1 up=>ir n4 m4 h1 (show _=some (.int .u8 26) from rfl) ?_;refine qZ rfl (ir n4 m4 h1 rfl ?_);refine sg hn h1 hb λ bf h2 _=>aq.mk (hk _ (up _ _ ?_));rw[e]; exact h2
theorem R3:km 186 v (.mk 31 x nn m a []) pl:=by
 intro b ar U bB R z vk dU h hb hk;have e:(Tre.mk 31 x nn m a []).pr=[kz].map aB++[eK x]:=by rw[Tre.cG]; simp[aV]
 rw[e]at hb;refine sf ?_;unfold vW;refine gG h λ b4 aS n4 m4 h1 up=>ir n4 m4 h1 (show _=some (.int .u8 31) from rfl) ?_;refine gE (by decide) (qZ rfl ?_);refine di (ee (by decide) (by decide) h1 hb λ bf h2 b2=>ir n4 m4 h2 rfl ?_);refine oD h2 b2 λ bR h3 _=>aq.mk (hk _ (up _ _ ?_));rw[e]; simpa [Tre.text,Tre.n,Tre.m] using h3
theorem W1:km 186 v (.mk 32 x nn m a []) pl:=by
 intro b ar U bB R z vk dU h hb hk;have e:(Tre.mk 32 x nn m a []).pr=[mT].map aB++[eK x]:=by rw[Tre.cG]; simp[aV]
 rw[e]at hb;refine sf ?_;unfold vW;refine gG h λ b4 aS n4 m4 h1 up=>ir n4 m4 h1 (show _=some (.int .u8 32) from rfl) ?_;refine gE (by decide) (gE (by decide) (qZ rfl ?_));refine di (ee (by decide) (by decide) h1 hb λ bf h2 b2=>ir n4 m4 h2 rfl ?_);refine oD h2 b2 λ bR h3 _=>aq.mk (hk _ (up _ _ ?_));rw[e]; simpa [Tre.text,Tre.n,Tre.m] using h3
theorem R4:km 186 v (.mk 33 x nn m a []) pl:=by
 intro b ar U bB R z vk dU h hb hk;have e:(Tre.mk 33 x nn m a []).pr=[eK x]:=by rw[Tre.cG]; simp[aV]
 rw[e]at hb;refine sf ?_;unfold vW;refine gG h λ b4 aS n4 m4 h1 up=>ir n4 m4 h1 (show _=some (.int .u8 33) from rfl) ?_;refine gE (by decide) (gE (by decide) (gE (by decide) (qZ rfl (ir n4 m4 h1 rfl ?_))));refine oD h1 hb λ bR h3 _=>aq.mk (hk _ (up _ _ ?_));rw[e]; exact h3
theorem R0 {ks:List Tre} (Ew:ks.length<=1000) (hp:fZ v L pl ks):km 186 v (.mk 34 x nn m a ks) pl:=by
 intro b ar U bB R z vk dU h hb hk;have e:(Tre.mk 34 x nn m a ks).pr=eK x::([bK].map aB++(dh cH (ks.map Tre.pr)++([bJ].map aB++[]))):=by
  rw[Tre.cG];simp only[aV,List.map_map];simp[Function.comp_def]
 rw[e]at hb;refine sf ?_;unfold vW;refine gG h λ b4 aS n4 m4 h1 up=>ir n4 m4 h1 (show _=some (.int .u8 34) from rfl) ?_;refine gE (by decide) (gE (by decide) (gE (by decide) (gE (by decide) (qZ rfl (ir n4 m4 h1 rfl ?_)))));refine oD h1 hb λ bf h2 b2=>?_;refine di (ee (by decide) (by decide) h2 b2 λ bR h3 b3=>?_);refine Cv dU hp Ew h3 b3 λ cP h4 rQ=>?_;refine di (ee (by decide) (by decide) h4 rQ λ du h5 _=>aq.mk (hk _ (up _ _ ?_)));rw[e]; simpa [Tre.text,Tre.n,Tre.m] using h5
theorem wq {k:Int} {w:aG} (Ku:(k,w)∈[((27:Int),dN),(28,dR),(29,fU),(30,ik)]):km 186 v (.mk k x nn m a []) pl:=by
 intro b ar U bB R z vk dU h hb hk;have e:(Tre.mk k x nn m a []).pr=[w].map aB++[]:=by
  rw[Tre.cG];simp only[cK,List.not_mem_nil,or_false,hY]at Ku;rcases Ku with ⟨rfl,rfl⟩|⟨rfl,rfl⟩|⟨rfl,rfl⟩|⟨rfl,rfl⟩<;>simp[aV]
 rw[e]at hb;have hw:w≠[]:=by
  simp only[cK,List.not_mem_nil,or_false,hY]at Ku;rcases Ku with ⟨_,rfl⟩|⟨_,rfl⟩|⟨_,rfl⟩|⟨_,rfl⟩<;>decide
 have N4:27<=k/\k<=30:=by
  simp only[cK,List.not_mem_nil,or_false,hY]at Ku;omega
 refine sf ?_;unfold vW;refine gG h λ b4 aS n4 m4 h1 up=>ir n4 m4 h1 (show _=some (.int .u8 k) from rfl) ?_;refine gE (by omega) (gE (by omega) (gE (by omega) (gE (by omega) (gE (by omega) ?_))));rw[lR];intro mm ui;rw[show NV.at mm .mp=AV.mp mm from rfl];rw[sZ (ks':=[.int .u8 27]) (vs':=[.str dN]) wO rfl rfl];rw[sZ (ks':=[.int .u8 27,.int .u8 28]) (vs':=[.str dN,.str dR]) iy rfl rfl];rw[sZ (ks':=[.int .u8 27,.int .u8 28,.int .u8 29]) (vs':=[.str dN,.str dR,.str fU]) iy rfl rfl];rw[sZ (ks':=[.int .u8 27,.int .u8 28,.int .u8 29,.int .u8 30]) (vs':=[.str dN,.str dR,.str fU,.str ik]) iy rfl rfl];have e1:cX aS (((((aS.new mm (.mp [] [])).set mm (.mp [.int .u8 27] [.str dN])).set mm (.mp [.int .u8 27,.int .u8 28] [.str dN,.str dR])).set mm (.mp [.int .u8 27,.int .u8 28,.int .u8 29] [.str dN,.str dR,.str fU])).set mm (.mp [.int .u8 27,.int .u8 28,.int .u8 29,.int .u8 30] [.str dN,.str dR,.str fU,.str ik])) :=
  ((((bg ui).set ui.1).set ui.1).set ui.1).set ui.1
 have Ti:((((((aS.new mm (.mp [] [])).set mm (.mp [.int .u8 27] [.str dN])).set mm (.mp [.int .u8 27,.int .u8 28] [.str dN,.str dR])).set mm (.mp [.int .u8 27,.int .u8 28,.int .u8 29] [.str dN,.str dR,.str fU])).set mm (.mp [.int .u8 27,.int .u8 28,.int .u8 29,.int .u8 30] [.str dN,.str dR,.str fU,.str ik]))).mp mm=some ([.int .u8 27,.int .u8 28,.int .u8 29,.int .u8 30],[.str dN,.str dR,.str fU,.str ik]):=iy;have h2:=h1.mono e1;generalize ((((aS.new mm (.mp [] [])).set mm _).set mm _).set mm _).set mm _=bf at *;refine ir n4 m4 h2 (show _=some (.int .u8 k) from rfl) ?_;have SA:eQ (some (.i,9)) (some (AV.str [])) (.mp mm) (.int .u8 k) false bf=.val (.str w):=by
  simp only[eQ,lH,Ti];simp only[cK,List.not_mem_nil,or_false,hY]at Ku;rcases Ku with ⟨rfl,rfl⟩|⟨rfl,rfl⟩|⟨rfl,rfl⟩|⟨rfl,rfl⟩<;>rfl
 rw[SA,al];refine di (ee (rest:=[]) (λ u hu=>by rw[kn]at hu; subst hu; exact hw) (by simp) h2 hb λ bR h3 _=>aq.mk (hk _ (up _ _ ?_)));rw[e,gx]; exact h3
theorem PE {A:Tre} (hp:fZ v L pl [A]):km 187 v (.mk 5 x nn m a [A]) pl:=by
 intro b ar U bB R z vk dU h hb hk;have e:(Tre.mk 5 x nn m a [A]).pr=eK x::([dk].map aB++(A.pr++[])):=by rw[Tre.cG]; simp[aV]
 rw[e]at hb;obtain⟨p,rfl,g,_⟩:=hp.one;refine wV ?_;unfold BI;refine gG h λ b4 aS n4 m4 h1 up=>ir n4 m4 h1 (show _=some (.int .u8 5) from rfl) ?_;refine qZ rfl (ir n4 m4 h1 rfl ?_);refine oD h1 hb λ bf h2 b2=>?_;refine di (ee (by decide) (by decide) h2 b2 λ bR h3 b3=>?_);refine lz (i:=0) dU rfl ?_;refine tN g h3 b3 λ cP h4 _=>aq.mk (hk _ (up _ _ ?_));rw[e]; simpa [Tre.text,Tre.n,Tre.m] using h4
theorem R5:km 187 v (.mk 37 x nn m a []) pl:=by
 intro b ar U bB R z vk dU h hb hk;have e:(Tre.mk 37 x nn m a []).pr=[eK x]:=by rw[Tre.cG]; simp[aV]
 rw[e]at hb;refine wV ?_;unfold BI;refine gG h λ b4 aS n4 m4 h1 up=>ir n4 m4 h1 (show _=some (.int .u8 37) from rfl) ?_;refine gE (by decide) (qZ rfl (ir n4 m4 h1 rfl ?_));refine oD h1 hb λ bR h3 _=>aq.mk (hk _ (up _ _ ?_));rw[e]; exact h3
theorem abi {ps:List Tre} {B:Tre} (Ew:ps.length<=900) (uP:1<=ps.length) (hv:eW v L.length (cg L)) (hp:fZ v L pl (ps++[B])) (hB:cE B.kind=true):km 187 v (.mk 35 x nn m a (ps++[B])) pl:=by
 intro b ar U bB R z vk dU h hb hk;have e:(Tre.mk 35 x nn m a (ps++[B])).pr=[rO,bK].map aB++(dh cH (ps.map Tre.pr)++(eh [bJ] [B]++[])):=by
  rw[Tre.cG];have e1:(ps++[B]).map (λ t=>(t.kind,t.pr))=(ps.map λ t=>(t.kind,t.pr))++[(B.kind,B.pr)]:=by simp
  rw[e1];generalize hq:ps.map (λ t=>(t.kind,t.pr))=q;have e3:ps.map Tre.pr=q.map (·.2):=by rw[<- hq,List.map_map]; rfl
  rw[e3];simp[aV,eh,oC]
 rw[e]at hb;have hlen:=hp.len;rw[cO,List.length_singleton]at hlen;obtain⟨CV,yb⟩:=hp.app;have Hu:=CV.len;have pP:=yb.len;have ca:pl≠[]:=λ e=>by rw[e]at hlen; simp at hlen
 refine wV ?_;unfold BI;refine gG h λ b4 aS n4 m4 h1 up=>ir n4 m4 h1 (show _=some (.int .u8 35) from rfl) ?_;refine gE (by decide) (gE (by decide) (qZ rfl ?_));rw[dU.len,al,FR];refine⟨bI (by omega) (by omega),?_⟩;have yZ:((pl.length:Int)-1)=((ps.length:Nat):Int):=by omega
 rw[yZ];refine qm (ee (by decide) (by decide) h1 hb λ bf h2 b2=>?_);refine o9 (i:=0) (j:=ps.length) dU ca (by omega) (by omega) (kU _ _ _) rfl λ c=>?_;rw[eG];refine Cv (.inr ⟨_,rfl⟩) CV (by omega) h2 b2 λ bR h3 b3=>?_;refine o9 (i:=ps.length) (j:=pl.length) dU ca (by omega) (by omega) rfl (kU _ _ _) λ c=>?_;rw[tJ];refine di (lf hv (.inr ⟨_,rfl⟩) yb (by simp[hB]) rfl (by simp) (by decide) h3 b3 λ tf h8 _=>aq.mk (hk _ (up _ _ ?_)));rw[e]; simpa using h8
theorem MP {A B C:Tre} (hv:eW v L.length (cg L)) (hp:fZ v L pl [A,B,C]) (hA:cE A.kind=true) (hC:cE C.kind=true):km 187 v (.mk 36 x nn m a [A,B,C]) pl:=by
 intro b ar U bB R z vk dU h hb hk;have e:(Tre.mk 36 x nn m a [A,B,C]).pr=[gQ].map aB++(eh [va] [A]++([cC,vb].map aB++(B.pr++(eh [uc] [C]++([jJ].map aB++[]))))):=by
  rw[Tre.cG]; simp[aV,eh]
 rw[e]at hb;obtain⟨p,q,r,rfl,⟨gA,xA,SM,Sz⟩,⟨gB,_⟩,gC,xC,hxC,hkC⟩:=hp.three;have hpA:fZ v L [p] [A]:=⟨rfl,λ i n t h1 h2=>by
  match i,h1,h2 with
  | 0,h1,h2=>simp at h1 h2; subst h1 h2; exact⟨gA,xA,SM,Sz⟩⟩
 have hpC:fZ v L [r] [C]:=⟨rfl,λ i n t h1 h2=>by
  match i,h1,h2 with
  | 0,h1,h2=>simp at h1 h2; subst h1 h2; exact⟨gC,xC,hxC,hkC⟩⟩
 refine wV ?_;unfold BI;refine gG h λ b4 aS n4 m4 h1 up=>ir n4 m4 h1 (show _=some (.int .u8 36) from rfl) ?_;refine gE (by decide) (gE (by decide) (gE (by decide) (qZ rfl ?_)));refine di (ee (by decide) (by decide) h1 hb λ bf h2 b2=>?_);refine o9 (i:=0) (j:=1) dU (by simp) (by omega) (by simp) rfl rfl λ c=>?_;refine di (lf (pl:=[p]) hv (.inr ⟨_,rfl⟩) hpA (by simp[hA]) rfl (by simp) (by decide) h2 b2 λ bR h3 b3=>?_);refine qm (ee (by decide) (by decide) h3 b3 λ cP h4 rQ=>?_);refine lz (i:=1) dU rfl ?_;refine tN gB h4 rQ λ du h5 b5=>?_;refine o9 (i:=2) (j:=3) dU (by simp) (by omega) (by simp) rfl rfl λ c=>?_;refine di (lf (pl:=[r]) hv (.inr ⟨_,rfl⟩) hpC (by simp[hC]) rfl (by simp) (by decide) h5 b5 λ mh h6 b6=>?_);refine di (ee (by decide) (by decide) h6 b6 λ jk h7 _=>aq.mk (hk _ (up _ _ ?_)));rw[e]; simpa using h7
theorem PC {ps:List Tre} {B:Tre} (Ew:ps.length<=900) (hp:fZ v L pl (ps++[B])):km 182 v (.mk 8 x nn m a (ps++[B])) pl:=by
 intro b ar U bB R z vk dU h hb hk;have e:(Tre.mk 8 x nn m a (ps++[B])).pr=[bK].map aB++(dh cH (ps.map Tre.pr)++([bJ,fY].map aB++(B.pr++[]))):=by
  rw[Tre.cG];have e1:(ps++[B]).map (λ t=>(t.kind,t.pr))=(ps.map λ t=>(t.kind,t.pr))++[(B.kind,B.pr)]:=by simp
  rw[e1];generalize hq:ps.map (λ t=>(t.kind,t.pr))=q;have e3:ps.map Tre.pr=q.map (·.2):=by rw[<- hq,List.map_map]; rfl
  rw[e3];simp[aV,oC]
 rw[e]at hb;have hlen:=hp.len;rw[cO,List.length_singleton]at hlen;obtain⟨CV,yb⟩:=hp.app;have ca:pl≠[]:=λ e=>by rw[e]at hlen; simp at hlen
 obtain⟨p,Hy,gB,_⟩:=yb.one;have nj:pl[ps.length]?=some p:=by
  have:(pl.drop ps.length)[0]?=some p:=by rw[Hy]; rfl
  simpa using this
 refine Iv ?_;unfold LS;refine gG h λ b4 aS n4 m4 h1 up=>ir n4 m4 h1 (show _=some (.int .u8 8) from rfl) ?_;refine qZ rfl ?_;rw[dU.len,al,FR];refine⟨bI (by omega) (by omega),?_⟩;have yZ:((pl.length:Int)-1)=((ps.length:Nat):Int):=by omega
 rw[yZ];refine di (ee (by decide) (by decide) h1 hb λ bf h2 b2=>?_);refine o9 (i:=0) (j:=ps.length) dU ca (by omega) (by omega) (kU _ _ _) rfl λ c=>?_;rw[eG];refine Cv (.inr ⟨_,rfl⟩) CV (by omega) h2 b2 λ bR h3 b3=>?_;refine qm (ee (by decide) (by decide) h3 b3 λ cP h4 rQ=>?_);refine lz dU nj ?_;refine tN gB h4 rQ λ du h5 b5=>aq.mk (hk _ (up _ _ ?_));rw[e]; simpa using h5
theorem RZ {k:Int} (aeG:k=6\/k=7) (hn:dV nn=true):km 182 v (.mk k x nn m a []) pl:=by
 intro b ar U bB R z vk dU h hb hk;refine Iv ?_;unfold LS;refine gG h λ b4 aS n4 m4 h1 up=>ir n4 m4 h1 (show _=some (.int .u8 k) from rfl) ?_;refine gE (by omega) (ir n4 m4 h1 (show _=some (.int .u8 k) from rfl) ?_);have big:(∀ y,(Tre.mk k x nn m a []).pr=y->y=[(if k=6 then gY else ky)].map aB++[jh nn])->(aC.wP).wp K aS (λ v8 U =>
  (eB (some (.i,9)) v8 (AV.int .u8 6) (AV.str gY) U).wp K U (λ _ U =>
  (eB (some (.i,9)) v8 (AV.int .u8 7) (AV.str ky) U).wp K U (λ _ U =>
  (af (some 0) (.box b4 0)).wp K U (λ v10 U =>
  (ak (some (false,1)) v10 U).wp K U (λ v11 U =>
  (eQ (some (.i,9)) (some (AV.str [])) v8 v11 false U).wp K U (λ v12 U =>
  (au (some (9,1)) (some [AV.str []]) 1 false [(0,v12)]).wp K U (λ cn U =>
  ae K 231 [.box b 0,cn] U (ah (λ cA U =>
  (af (some 2) (.box b4 0)).wp K U (λ cQ U =>
  (ak (some (false,1)) cQ U).wp K U (λ dq U =>
  ae K 234 [.box b 0,dq] U (ah (λ cw U =>
  aq R (AV.aK []) U) (aa R))) (aa R)) (aa R)) (aa R))) (aa R)) (aa R)) (aa R)) (aa R)) (aa R)) (aa R)) (aa R):=by
  intro he;have e:=he _ rfl;have hw:(if k=6 then gY else ky)≠[]:=by split<;>decide
  rw[e]at hb;rw[lR];intro mm ui;rw[show NV.at mm .mp=AV.mp mm from rfl];rw[sZ (ks':=[.int .u8 6]) (vs':=[.str gY]) wO rfl rfl];rw[sZ (ks':=[.int .u8 6,.int .u8 7]) (vs':=[.str gY,.str ky]) iy rfl rfl];have e1:cX aS (((aS.new mm (.mp [] [])).set mm (.mp [.int .u8 6] [.str gY])).set mm (.mp [.int .u8 6,.int .u8 7] [.str gY,.str ky])):=((bg ui).set ui.1).set ui.1;have Ti:(((aS.new mm (.mp [] [])).set mm (.mp [.int .u8 6] [.str gY])).set mm (.mp [.int .u8 6,.int .u8 7] [.str gY,.str ky])).mp mm=some ([.int .u8 6,.int .u8 7],[.str gY,.str ky]):=iy;have h2:=h1.mono e1;generalize ((aS.new mm (.mp [] [])).set mm _).set mm _=bf at *;refine ir n4 m4 h2 (show _=some (.int .u8 k) from rfl) ?_;have SA:eQ (some (.i,9)) (some (AV.str [])) (.mp mm) (.int .u8 k) false bf=.val (.str (if k=6 then gY else ky)):=by
   simp only[eQ,lH,Ti];rcases aeG with rfl|rfl<;>rfl
  rw[SA,al];refine di (ee (λ u hu=>by rw[kn]at hu; subst hu; exact hw) (by simp) h2 hb λ bR h3 b3=>ir n4 m4 h3 rfl ?_);refine sg hn h3 b3 λ cP h4 _=>aq.mk (hk _ (up _ _ ?_));rw[e]; simpa [Tre.text,Tre.n,Tre.m] using h4
 have word:∀ w:aG,w≠[]->(Tre.mk k x nn m a []).pr=[w].map aB++[]->(au (some (9,1)) (some [AV.str []]) 1 false [(0,(AV.str w))]).wp K aS (λ v53 U=>ae K 231 [.box b 0,v53] U (ah (λ nC U=>aq R (AV.aK []) U) (aa R))) (aa R):=by
  intro w hw e;rw[e]at hb;refine di (ee (rest:=[]) (λ u hu=>by rw[kn]at hu; subst hu; exact hw) (by simp) h1 hb λ bR h3 _=>aq.mk (hk _ (up _ _ ?_)));rw[e,gx]; exact h3
 rw[bA,al];rcases aeG with rfl|rfl
 . simp only[dG,bo,iY,aP,cB];refine jL (eZ (h1.fr.aY n4 m4) rfl ?_);rw[bA,aJ];simp only[aQ,if_true,al];refine ic (λ vD=>?_) λ vD=>?_
   . have vD:nn=1:=vD;exact word pX (by decide) (by rw[Tre.cG]; simp[aV,vD])
   . have vD:¬ nn=1:=vD;refine ir n4 m4 h1 (show _=some (.int .u8 6) from rfl) ?_;rw[bA,al];simp only[dG,bo,iY,aP,cB];refine jL (eZ (h1.fr.aY n4 m4) rfl ?_);rw[bA,aJ];simp only[aQ,if_true,al];refine ic (λ wy=>?_) λ wy=>?_
     . have wy:nn=2:=wy;exact word lP (by decide) (by rw[Tre.cG]; simp[aV,wy])
     . have wy:¬ nn=2:=wy;exact big λ y hy=>by rw[<- hy,Tre.cG]; simp[aV,vD,wy]
 . simp only[show decide ((7:Int)=6)=false from rfl,bo,show (false==true)=false from rfl,aP,cN,aQ,bZ,if_false,al];refine cY (ir n4 m4 h1 (show _=some (.int .u8 7) from rfl) ?_);rw[bA,al];simp only[show decide ((7:Int)=6)=false from rfl,bo,show (false==true)=false from rfl,aP,cN,aQ,bZ,if_false,al];refine cY (big λ y hy=>by rw[<- hy,Tre.cG]; simp[aV])
end
end Go.Rip
namespace Go.Rip
open Go.Proofs Go.RowKit
section
variable {b n:Nat} {U ar aS ad:St} {v:AV} {bB l rest:List Tx} {L:List Nd} {t:Tre} {x:aG} {nn m a:Int} {pl:List Nat}
def C4 (k:Int):aG:=if k=2 then dY else if k=3 then gg else dQ
theorem Hi {R:cV->St->Prop} {k z:Int} {ks:List Tre} {vk:AV} {rest:List Tx} (Ht:k=2\/k=3\/k=4) (h:PS b v ar bB U) (hb:(bB++([C4 k].map aB++(eK x::rest))).length<=NT) (hk:∀ l ad,PS b v ar (bB++l) ad->(Tre.mk k x nn m a ks).pr=l->R (.ret (.aK [])) ad)
 (key:∀ b4 aS bf,b4≠b->aS.box b4=some (Az (.mk k x nn m a ks) z)->PS b v aS (bB++[C4 k].map aB++[eK x]) bf->(bB++[C4 k].map aB++[eK x]++rest).length<=NT->(∀ l ad,PS b v aS l ad->PS b v ar l ad) ->
   (jn 1 (λ v0 U =>
     (au (some (9,1)) (some [AV.str []]) 1 false [(0,(AV.str cC))]).wp K U (λ nV U =>
     ae K 231 [v0,nV] U (ah (λ yC U =>
     aq R (AV.aK []) U) (aa R))) (aa R)) λ j =>
   (af (some 0) (.box b4 0)).wp K bf (λ dt U =>
   (ak (some (false,1)) dt U).wp K U (λ v20 U =>
   (aw .eql (BT.mk false false false none false) true v20 (AV.int .u8 2)).wp K U (λ v21 U =>
   ax v21 (
    (au (some (9,1)) (some [AV.str []]) 1 false [(0,(AV.str dk))]).wp K U (λ eO U =>
    ae K 231 [.box b 0,eO] U (ah (λ v24 U =>
    (aE (some (3,1)) none vk (AV.int .i64 0)).wp K U (λ dX U =>
    (ak (some (false,1)) dX U).wp K U (λ v28 U =>
    ae K 123 [.box b 0,v28] U (ah (λ ef U =>
    j (.box b 0) U) (aa R))) (aa R)) (aa R)) (aa R))) (aa R)) (
    (cr (some false) vk).wp K U (λ v31 U =>
    (aw .sub (BT.mk false false false none false) true v31 (AV.int .i64 2)).wp K U (λ gl U =>
    (au (some (9,1)) (some [AV.str []]) 1 false [(0,(AV.str bK))]).wp K U (λ hU U =>
    ae K 231 [.box b 0,hU] U (ah (λ iC U =>
    (eD false (some (3,1)) vk none (some gl)).wp K U (λ lD U =>
    ae K 233 [.box b 0,lD] U (ah (λ v40 U =>
    (au (some (9,1)) (some [AV.str []]) 2 false [(0,(AV.str bJ)),(1,(AV.str dk))]).wp K U (λ fD U =>
    ae K 231 [.box b 0,fD] U (ah (λ kj U =>
    (aE (some (3,1)) none vk gl).wp K U (λ nB U =>
    (ak (some (false,1)) nB U).wp K U (λ ri U =>
    ae K 123 [.box b 0,ri] U (ah (λ v49 U =>
    (au (some (9,1)) (some [AV.str []]) 1 false [(0,(AV.str gP))]).wp K U (λ v51 U =>
    ae K 231 [.box b 0,v51] U (ah (λ mU U =>
    (aw .add (BT.mk false false false none false) true gl (AV.int .i64 1)).wp K U (λ oI U =>
    (aE (some (3,1)) none vk oI).wp K U (λ oJ U =>
    (ak (some (false,1)) oJ U).wp K U (λ qn U =>
    ae K 123 [.box b 0,qn] U (ah (λ v59 U =>
    j (.box b 0) U) (aa R))) (aa R)) (aa R)) (aa R)) (aa R))) (aa R)) (aa R))) (aa R)) (aa R)) (aa R))) (aa R)) (aa R))) (aa R)) (aa R))) (aa R)) (aa R)) (aa R))) (aa R)) (aa R)) (aa R))):ae K 180 [.box b 0,.agg (Az (.mk k x nn m a ks) z),vk] U R:=by
 have hw:C4 k≠[]:=by unfold C4; split; decide; split<;>decide
 refine Vf ?_;unfold Ve;refine gG h λ b4 aS n4 m4 h1 up=>?_;rw[lR];intro mm ui;rw[show NV.at mm .mp=AV.mp mm from rfl];rw[sZ (ks':=[.int .u8 2]) (vs':=[.str dY]) wO rfl rfl];rw[sZ (ks':=[.int .u8 2,.int .u8 3]) (vs':=[.str dY,.str gg]) iy rfl rfl];rw[sZ (ks':=[.int .u8 2,.int .u8 3,.int .u8 4]) (vs':=[.str dY,.str gg,.str dQ]) iy rfl rfl];have e1:cX aS ((((aS.new mm (.mp [] [])).set mm (.mp [.int .u8 2] [.str dY])).set mm (.mp [.int .u8 2,.int .u8 3] [.str dY,.str gg])).set mm (.mp [.int .u8 2,.int .u8 3,.int .u8 4] [.str dY,.str gg,.str dQ])) :=
  (((bg ui).set ui.1).set ui.1).set ui.1
 have Ti:((((aS.new mm (.mp [] [])).set mm (.mp [.int .u8 2] [.str dY])).set mm (.mp [.int .u8 2,.int .u8 3] [.str dY,.str gg])).set mm (.mp [.int .u8 2,.int .u8 3,.int .u8 4] [.str dY,.str gg,.str dQ])).mp mm=some ([.int .u8 2,.int .u8 3,.int .u8 4],[.str dY,.str gg,.str dQ]):=iy;have h2:=h1.mono e1;generalize (((aS.new mm (.mp [] [])).set mm _).set mm _).set mm _=bf at *;refine ir n4 m4 h2 (show _=some (.int .u8 k) from rfl) ?_;have SA:eQ (some (.i,9)) (some (AV.str [])) (.mp mm) (.int .u8 k) false bf=.val (.str (C4 k)):=by
  simp only[eQ,lH,Ti];rcases Ht with rfl|rfl|rfl<;>rfl
 rw[SA,al];refine di (ee (λ u hu=>by rw[kn]at hu; subst hu; exact hw) (by simp) h2 hb λ bR h3 b3=>ir n4 m4 h3 rfl ?_);refine oD h3 b3 λ cP h4 rQ=>?_;exact key b4 aS cP n4 m4 h4 rQ up
theorem MN {A:Tre} (hp:fZ v L pl [A]):km 180 v (.mk 2 x nn m a [A]) pl:=by
 intro b ar U bB R z vk dU h hb hk;have e:(Tre.mk 2 x nn m a [A]).pr=[C4 2].map aB++(eK x::([dk].map aB++(A.pr++([cC].map aB++[])))):=by rw[Tre.cG]; simp[aV,C4]
 rw[e]at hb;obtain⟨p,rfl,g,_⟩:=hp.one;refine Hi (k:=2) (.inl rfl) h hb (λ l ad h' e'=>hk ad (by rw[e']; exact h')) λ b4 aS bf n4 m4 h2 b2 up=>?_;intro j hj;refine ir n4 m4 h2 (show _=some (.int .u8 2) from rfl) (qZ rfl ?_);refine di (ee (by decide) (by decide) h2 b2 λ bR h3 b3=>?_);refine lz (i:=0) dU rfl ?_;refine tN g h3 b3 λ cP h4 rQ=>hj _ _ ?_;refine di (ee (by decide) (by decide) h4 rQ λ du h5 _=>aq.mk (hk _ (up _ _ ?_)));rw[e]; simpa using h5
theorem WW {k:Int} {ps:List Tre} {B C:Tre} (aiL:k=3\/k=4) (Ew:ps.length<=900) (hp:fZ v L pl (ps++[B,C])):km 180 v (.mk k x nn m a (ps++[B,C])) pl:=by
 intro b ar U bB R z vk dU h hb hk;have e:(Tre.mk k x nn m a (ps++[B,C])).pr=[C4 k].map aB++(eK x::([bK].map aB++(dh cH (ps.map Tre.pr)++([bJ,dk].map aB++(B.pr++([gP].map aB++(C.pr++([cC].map aB++[])))))))):=by
  rw[Tre.cG];have e1:(ps++[B,C]).map (λ t=>(t.kind,t.pr))=(ps.map λ t=>(t.kind,t.pr))++[(B.kind,B.pr),(C.kind,C.pr)]:=by simp
  rw[e1];generalize hq:ps.map (λ t=>(t.kind,t.pr))=q;have e3:ps.map Tre.pr=q.map (·.2):=by rw[<- hq,List.map_map]; rfl
  rw[e3];have el:(q++[(B.kind,B.pr),(C.kind,C.pr)]).length-2=q.length:=by simp
  have RW:(q++[(B.kind,B.pr),(C.kind,C.pr)]).length-1=q.length+1:=by simp
  rcases aiL with rfl|rfl<;>simp[aV,C4,el,RW,oC]
 rw[e]at hb;have hlen:=hp.len;rw[cO,eX,List.length_singleton]at hlen;obtain⟨CV,yb⟩:=hp.app;obtain⟨p,q,Hy,⟨gB,_⟩,gC,_⟩:=yb.two;have ca:pl≠[]:=λ e=>by rw[e]at hlen; simp at hlen
 have hpB:pl[ps.length]?=some p:=by
  have:(pl.drop ps.length)[0]?=some p:=by rw[Hy]; rfl
  simpa using this
 have hpC:pl[ps.length+1]?=some q:=by
  have:(pl.drop ps.length)[1]?=some q:=by rw[Hy]; rfl
  simpa using this
 refine Hi (k:=k) (by omega) h hb (λ l ad h' e'=>hk ad (by rw[e']; exact h')) λ b4 aS bf n4 m4 h2 b2 up=>?_;intro j hj;refine ir n4 m4 h2 (show _=some (.int .u8 k) from rfl) (gE (by omega) ?_);rw[dU.len,al,FR];refine⟨bI (by omega) (by omega),?_⟩;have yZ:((pl.length:Int)-2)=((ps.length:Nat):Int):=by omega
 rw[yZ];refine di (ee (by decide) (by decide) h2 b2 λ bR h3 b3=>?_);refine o9 (i:=0) (j:=ps.length) dU ca (by omega) (by omega) (kU _ _ _) rfl λ c=>?_;rw[eG];refine Cv (.inr ⟨_,rfl⟩) CV (by omega) h3 b3 λ cP h4 rQ=>?_;refine qm (ee (by decide) (by decide) h4 rQ λ du h5 b5=>?_);refine lz dU hpB ?_;refine tN gB h5 b5 λ mh h6 b6=>?_;refine di (ee (by decide) (by decide) h6 b6 λ jk h7 b7=>?_);rw[dO];refine⟨bI (by omega) (by omega),?_⟩;have vF:((ps.length:Nat):Int)+1=((ps.length+1:Nat):Int):=by omega
 rw[vF];refine lz dU hpC ?_;refine tN gC h7 b7 λ tf h8 b8=>hj _ _ ?_;refine di (ee (by decide) (by decide) h8 b8 λ tg h9 _=>aq.mk (hk _ (up _ _ ?_)));rw[e]; simpa using h9
theorem WX {A:Tre} (hv:eW v L.length (cg L)) (hp:fZ v L pl [A]) (hA:cE A.kind=true):km 183 v (.mk 19 x nn m a [A]) pl:=by
 intro b ar U bB R z vk dU h hb hk;have e:(Tre.mk 19 x nn m a [A]).pr=[qD].map aB++(dP A.kind 4 A.pr++[]):=by rw[Tre.cG]; simp[aV]
 rw[e]at hb;obtain⟨p,rfl,g,xA,SM,Sz⟩:=hp.one;refine Iw ?_;unfold LU;refine gG h λ b4 aS n4 m4 h1 up=>ir n4 m4 h1 (show _=some (.int .u8 19) from rfl) (qZ rfl ?_);refine di (ee (by decide) (by decide) h1 hb λ bf h2 b2=>?_);refine lz (i:=0) dU rfl ?_;refine yq (least:=4) hv SM Sz hA g h2 b2 λ bR h3 _=>aq.mk (hk _ (up _ _ ?_));rw[e]; simpa using h3
def rv (lev:Nat):List (List UInt8×Int):=match opsL.find? λ p=>p.1==(lev:Int) with|some p=>p.2|none=>[]
theorem TA {k:Int} (hk:k∈oQ):(∀ q∈rv (bP k),q.2=k->q=(ki k,k))/\(ki k,k)∈rv (bP k)/\(rv (bP k)).Nodup:=by
 simp only[oQ,cK,List.not_mem_nil,or_false]at hk;rcases hk with rfl|rfl|rfl|rfl|rfl|rfl|rfl|rfl<;>decide
theorem XN {k:Int} (hk:k∈oQ) (U:St):eQ (some (.i,185)) (some AV.kx) opsV (.int .i64 (bP k:Nat)) false U=.val (.gJ ((rv (bP k)).map λ p=>(kh p).1) ((rv (bP k)).map λ p=>(kh p).2)):=by
 simp only[oQ,cK,List.not_mem_nil,or_false]at hk;rcases hk with rfl|rfl|rfl|rfl|rfl|rfl|rfl|rfl<;>rfl
theorem Fr.iter {o:Nat} {y:List (AV×AV)×Option (AV×AV)} (h:Fr b U ad) (n:o≠b) (k:U.iter o=some y):ad.iter o=some y:=by
 cases e:U.live o with
 | none=>simp[St.iter,e]at k
 | some x =>
   have:ad.live o=U.live o:=(h o x n e (by intro t ht; subst ht; simp[St.iter,e]at k)).trans e.symm;unfold St.iter at k ⊢;rw[this]; exact k
theorem CG {o c:Nat} {y:List AV} {z:List (AV×AV)×Option (AV×AV)} (h:U.box c=some y) (k:U.iter o=some z):c≠o:=by
 rintro rfl;unfold St.box at h; unfold St.iter at k;split at h
 . rename_i e; simp[e]at k
 . rename_i e; simp[e]at k
 . cases h
theorem Np {o c:Nat} {y:Tok} {z:List (AV×AV)×Option (AV×AV)} (h:U.tok c=some y) (k:U.iter o=some z):c≠o:=by
 rintro rfl;unfold St.tok at h; unfold St.iter at k;split at h
 . rename_i e; simp[e]at k
 . cases h
theorem PS.abx {o:Nat} {z:List (AV×AV)×Option (AV×AV)} {x:Live} (h:PS b v ar bB U) (hn:ar.live o=none) (ho:U.iter o=some z):PS b v ar bB (U.set o x):=by
 obtain⟨⟨vl,h1,h2⟩,h3⟩:=h;refine⟨⟨vl,by rw[aO (CG h1 ho)]; exact h1,?_⟩,λ c y hc hy ht=>?_⟩
 . refine⟨?_,h2.z,h2.t,yQ _⟩;rcases h2.g with g|⟨τ,r1,r2,r3⟩
   . exact .inl g
   . exact .inr ⟨τ,r1,by rw[iL (Np r2 ho)]; exact r2,r3⟩
 . rw[dW,if_neg (λ e=>by subst e; rw[hn]at hy; cases hy)];exact h3 c y hc hy ht
theorem NM {k:Int} {A:Tre} {rs:List Tre} (pO:k∈oQ) (hrs:(k=25/\rs=[]/\dV nn=true)\/(k≠25/\∃ B,rs=[B]/\cE B.kind=true)) (hv:eW v L.length (cg L)) (hp:fZ v L pl (A::rs)) (hA:cE A.kind=true):km 183 v (.mk k x nn m a (A::rs)) pl:=by
 intro b ar U bB R z vk dU h hb hk;obtain⟨q1,q2,q3⟩:=TA pO;have aiN:2<=bP k/\bP k<=8:=by
  simp only[oQ,cK,List.not_mem_nil,or_false]at pO;rcases pO with rfl|rfl|rfl|rfl|rfl|rfl|rfl|rfl<;>decide
 have hk8:bP k=8↔k=25:=by
  simp only[oQ,cK,List.not_mem_nil,or_false]at pO;rcases pO with rfl|rfl|rfl|rfl|rfl|rfl|rfl|rfl<;>decide
 have hkT:cE k=true:=by
  simp only[oQ,cK,List.not_mem_nil,or_false]at pO;rcases pO with rfl|rfl|rfl|rfl|rfl|rfl|rfl|rfl<;>decide
 have aiK:k≠19:=by
  simp only[oQ,cK,List.not_mem_nil,or_false]at pO;omega
 have ca:ki k≠[]:=by
  simp only[oQ,cK,List.not_mem_nil,or_false]at pO;rcases pO with rfl|rfl|rfl|rfl|rfl|rfl|rfl|rfl<;>decide
 obtain⟨tl,tb⟩:∃ tl,tl=if k=25 then [jh nn] else match rs with|[B]=>dP B.kind (bP k+1) B.pr|_=>[]:=⟨_,rfl⟩
 have e:(Tre.mk k x nn m a (A::rs)).pr=dP A.kind (if bP k=5 then 6 else bP k) A.pr++([ki k].map aB++tl):=by
  rw[Tre.cG,tb];simp only[oQ,cK,List.not_mem_nil,or_false]at pO;rcases hrs with ⟨rfl,rfl,_⟩|⟨P5,B,rfl,_⟩
  . simp[aV,bP,ki]
  . rcases pO with rfl|rfl|rfl|rfl|rfl|rfl|rfl|rfl
    all_goals first
     | exact absurd rfl P5
     | simp[aV,bP]
 rw[e]at hb;obtain⟨p0,pr,rfl⟩:∃ p r,pl=p::r:=by
  have:=hp.len;cases pl with
  | nil=>simp at this
  | cons p r=>exact⟨p,r,rfl⟩
 obtain⟨gA,xA,SM,Sz⟩:=hp.nd 0 p0 A rfl rfl;refine Iw ?_;unfold LU;refine gG h λ b4 aS n4 m4 h1 up=>ir n4 m4 h1 (show _=some (.int .u8 k) from rfl) (gE aiK ?_);refine ir n4 m4 h1 (show _=some (.int .u8 k) from rfl) ?_;obtain⟨vl,jr⟩:=h1.ld;refine Bd (l:=[]) jr ?_;rw[bE,HW hkT];intro j hj;have body:j (.box b 0) vk (.box b4 0) (.int .i64 (bP k:Nat)) (.int .i64 ((if bP k=5 then 6 else bP k:Nat):Int)) aS:=by
  refine hj _ _ _ _ _ _ ?_;refine lz (i:=0) dU rfl ?_;refine yq hv SM Sz hA gA h1 hb λ bf h2 b2=>?_;obtain⟨vl2,ai7⟩:=h2.ld;have m4:=h2.fr.aY n4 m4;have up:∀ l ad,PS b v bf l ad->PS b v ar l ad:=λ l ad h'=>up l ad (h2.app h');have h2:=h2.Fq;simp only[bW,al];refine gR (ej ai7 rfl ?_);rw[XN pO,al];have Xr:∀ (l:List (List UInt8×Int)) fk,vU (some fk) (.gJ (l.map λ p=>(kh p).1) (l.map λ p=>(kh p).2))=.new .it none (.iter (l.map kh) none):=λ l fk=>by rw[<- zip_map]; rfl
  rw[Xr,lR];intro o ho;rw[show NV.at o .it=AV.it o from rfl];have h3:=h2.mono (bg ho (x:=.iter ((rv (bP k)).map kh) none));have it3:(bf.new o (.iter ((rv (bP k)).map kh) none)).iter o=some ((rv (bP k)).map kh,none):=by simp
  have fo:bf.live o=none:=ho.1;generalize p7:bB++dP A.kind (if bP k=5 then 6 else bP k) A.pr=tk at *
  refine⟨λ mm w0 w2 w4 w6 w42 ad=>∃ (l2 lr:List (List UInt8×Int)) (c2:Option (AV×AV)),w0=.box b 0/\w2=vk/\w4=.box b4 0/\w6=.int .i64 (bP k:Nat)/\w42=.it o/\ad.iter o=some (l2.map kh,c2)/\mm=l2.length/\(lr++l2).Perm (rv (bP k))/\PS b v bf (tk++if (ki k,k)∈lr then [aB (ki k)] else []) ad,
   ⟨_,rv (bP k),[],none,rfl,rfl,rfl,rfl,rfl,it3,rfl,by simp,by simpa using h3⟩,?_⟩
  rintro mm w0 w2 w4 w6 w42 bR ⟨l2,lr,c2,rfl,rfl,rfl,rfl,rfl,hit,rfl,KI,h4⟩;refine Gw hit (λ hl=>?_) (λ p l3 nj=>?_)
  . subst hl;rw[gx]at KI;rw[if_pos (KI.mem_iff.2 q2)]at h4;have rQ:(tk++[aB (ki k)]++tl).length<=NT:=by simpa using b2
    simp only[bp,eG,dT,al,bq];rcases hrs with ⟨uL,_,hnn⟩|⟨P5,B,hB,hBT⟩
    . have h8:=hk8.2 uL;refine qZ (by omega) (ir n4 m4 h4 (show _=some (.int .i64 nn) from rfl) ?_);rw[if_pos uL]at tb;rw[tb]at rQ;refine sg hnn h4 rQ λ du h5 _=>aq.mk (hk _ (up _ _ ?_));rw[e,tb,<- dc,p7,<- dc]; exact h5
    . have h8:bP k≠8:=λ e=>P5 (hk8.1 e);subst hB;rw[if_neg P5]at tb;simp only at tb;refine gE (by omega) ?_;obtain⟨q0,hq0,gB,xB,hxB,hkB⟩:∃ q0,(p0::pr)[1]?=some q0/\rB v q0 B/\∃ x,L[q0]?=some x/\x.kind=B.kind:=by
       have:=hp.len
       match pr,this with
       | [q0],_=>exact⟨q0,rfl,hp.nd 1 q0 B rfl rfl⟩
      refine lz (i:=1) dU hq0 ?_;rw[dO];refine⟨bI (by omega) (by omega),?_⟩;have vF:((bP k:Nat):Int)+1=((bP k+1:Nat):Int):=by omega
      rw[vF];rw[tb]at rQ;refine yq (rest:=[]) hv hxB hkB hBT gB h4 (by simpa using rQ) λ du h5 _=>aq.mk (hk _ (up _ _ ?_));rw[e,tb,<- dc,p7,<- dc]; exact h5
  . have he:oe (.it o) (bR.set o (.iter (l3.map kh) (some (kh p))))=.val (.aK [(kh p).1,(kh p).2]):=by simp[oe]
    have h5:=h4.abx (x:=.iter (l3.map kh) (some (kh p))) fo hit;have it5:(bR.set o (.iter (l3.map kh) (some (kh p)))).iter o=some (l3.map kh,some (kh p)):=by simp
    have aiT:o≠b:=λ e=>by
     subst e;obtain⟨wb,ai6⟩:=h4.ld;exact CG ai6 hit rfl
    have Jg:(lr++[p]++l3).Perm (rv (bP k)):=by
     rw[dc];exact (List.Perm.append_left lr nj).trans KI
    have hlen:l3.length<l2.length:=by rw[<- nj.length_eq]; simp
    have hnd:(lr++[p]++l3).Nodup:=Jg.nodup_iff.2 q3;have aiW:p∈rv (bP k):=Jg.mem_iff.1 (by simp);simp only[bp,eG,dT,al,bH];rw[he];simp only[bp,eG,dT,al,List.drop_succ_cons];refine ir n4 m4 h5 (show _=some (.int .u8 k) from rfl) ?_;rw[show (kh p).2=.int .u8 p.2 from rfl,show (kh p).1=.str p.1 from rfl,bA,al];refine ic (λ hpk=>?_) λ hpk=>?_
    . have Hy:=q1 p aiW hpk;have KF:(ki k,k)∉lr:=λ hm=>by
       rw[<- Hy]at hm;rw[List.nodup_append,List.nodup_append]at hnd;exact hnd.1.2.2 p hm p (by simp) rfl
      rw[if_neg KF,gx]at h5;have CV:p.1=ki k:=by rw[Hy]
      rw[CV];refine di (ee (ws:=[ki k]) (rest:=tl) (λ u hu=>by rw[kn]at hu; subst hu; exact ca) (by simp) h5.Fq (by simpa using b2) λ mh h6 _=>?_);refine⟨l3.length,hlen,l3,lr++[p],some (kh p),rfl,rfl,rfl,rfl,rfl,h6.fr.iter aiT it5,rfl,Jg,?_⟩;rw[if_pos (by rw[<- Hy]; simp)];exact h5.app h6
    . refine⟨l3.length,hlen,l3,lr++[p],some (kh p),rfl,rfl,rfl,rfl,rfl,it5,rfl,Jg,?_⟩;have:((ki k,k)∈lr++[p])↔(ki k,k)∈lr:=by
       simp only[fT,kn];exact⟨λ h=>h.resolve_right λ e=>hpk (by rw[<- e]),.inl⟩
      have e3:(if (ki k,k)∈lr++[p] then [aB (ki k)] else [])=if (ki k,k)∈lr then [aB (ki k)] else []:=by
       by_cases hm:(ki k,k)∈lr
       . rw[if_pos hm,if_pos (this.2 hm)]
       . rw[if_neg hm,if_neg λ h=>hm (this.1 h)]
      rw[e3];exact h5
 refine FO (ic (λ h5=>?_) λ h5=>?_)
 . have h5':bP k=5:=by omega
   rw[dO];refine⟨bI (by omega) (by omega),?_⟩;rw[if_pos h5']at body;have:((bP k:Nat):Int)+1=((6:Nat):Int):=by omega
   rw[this]; exact body
 . have h5':¬ bP k=5:=by omega
   rw[if_neg h5']at body;exact body
end
end Go.Rip
namespace Go.Rip
open Go.Proofs Go.RowKit
theorem Db {v:AV} {l:List Nd} {n:Nat} {en:Int} {bn be bt:Nat} {U:St} {B:AV->Qr->St->Prop} {Kn:St->Prop} {Ke:Nat->St->Prop} {Kr:St->Prop} {Kp:AV->St->Prop} (I:Nat->List Nat->St->Prop) (J:Nat->St->Prop)
 (hv:eW v l.length (cg l)) (hn:n<l.length) (hlen:l.length<=100000) (hen:en<=l.length)
 (Dz:∀ o ks U,I o ks U->U.box bn=some [.int .i64 (n:Nat)]/\U.box be=some [.int .i64 en]/\U.box bt=some [v])
 (EE:∀ o ks U L L',I o ks U->U.loop o=some L->I o ks (U.set o (.loop L')))
 (hJ:∀ o U L L',J o U->U.loop o=some L->J o (U.set o (.loop L')))
 (body:∀ (ks:List Nat) (kg:Nat) (x:Nd) (aS:St) (o:Nat) (L1:gm) (q:Qr),I o ks aS->l[kg]?=some x->(kg:Int)<en->0<x.size->n<kg->ks.length<l.length->(∃ r,fO l en l.length (n+1)=ks++kg::r)->aS.loop o=some L1 ->
   (∀ bf,I o (ks++[kg]) bf->x.size<=100000->bf.loop o=some L1->q.n bf)->(∀ bf,J o bf->bf.loop o=some L1->q.r bf)->B (.int .i64 (kg:Nat)) q aS)
 (fin:∀ ks aS o L,ks=fO l en l.length (n+1)->I o ks aS->aS.loop o=some L->Kn (aS.del o))
 (W3:∀ aS o L,J o aS->aS.loop o=some L->Kr (aS.del o))
 (h0:∀ o L,U.dL o->I o [] (U.new o (.loop L))):sN K 1 (.func (.func 155) [] [.box bn 0,.box be 0,.box bt 0]) U (λ v q U=>q.E6 (λ U=>B v q U) U) Kn Ke Kr Kp:=by
 refine⟨by kernel_rfl,λ o L ho Kj Sh Y=>?_⟩;have I1:=h0 o L ho;have L8:=xr (U:=U) (b:=o) (L:=L);generalize U.new o (.loop L)=aS at *;refine It ?_;unfold LQ;rw[il (Dz _ _ _ I1).1,eG,bC,dO];refine⟨bI (by omega) (by omega),?_⟩;refine⟨λ m v0 v2 v3 v5 ad=>∃ ks f p,m=l.length-p/\v0=.te o/\v2=.box be 0/\v3=.box bt 0/\v5=.int .i64 (p:Nat)/\n<p/\p<=300000/\l.length-p<=f/\ks++fO l en f p=fO l en l.length (n+1)/\I o ks ad/\∃ L1,ad.loop o=some L1/\L1.st .ready none=L/\L1.state=.ready/\L1.gL=none,
  ⟨_,[],l.length,n+1,rfl,rfl,rfl,rfl,by simp,by omega,by omega,by omega,rfl,I1,L,L8,by cases L; simp_all [gm.st],Kj,Sh⟩,?_⟩
 clear I1 L8;rintro m v0 v2 v3 v5 bf ⟨ks,f,p,rfl,rfl,rfl,rfl,rfl,hnp,hp3,hf,iW,I2,L1,ke,gr,CX,CW⟩;obtain⟨k1,k2,k3⟩:=Dz _ _ _ I2;rw[il k2,eG,bC];simp only[bV,al,bo,aP];have stop:fO l en f p=[]->aq (LL o Kn Ke Kr Kp) (.aK []) bf:=λ h=>by
  rw[h,gx]at iW;refine aq.mk ⟨L1,ke,by rw[CX]; simp,?_⟩;rw[CW];exact fin ks bf o L1 iW I2 ke
 by_cases aN:(p:Int)<en
 . have nj:p<l.length:=by omega
   obtain⟨x,hx⟩:∃ x,l[p]?=some x:=⟨l[p],by simp[nj]⟩;cases f with
   | zero=>omega
   | succ f =>
   have ya:fO l en (f+1) p=if 0<x.size then p::fO l en f (p+x.size.toNat) else []:=by
    simp only[fO,hx,aN,true_and]
   simp only[aN,dG,iY,cB,aJ,bh,db,tH k3,eG,jE,nw];refine DP hv hx λ r=>?_;simp only[dC,aJ,nw,dA,dK,List.drop,qf,jE,eM,aQ,if_true,al,cq];refine⟨λ hs=>?_,λ hs=>?_⟩
   . rw[if_pos hs]at ya;simp only[jz,zQ];refine Y _ _ _ L1 rfl ke gr ?_;refine⟨L1,ke,CX,?_⟩;have I3:=EE o _ _ L1 { L1 with state:=.busy } I2 ke
     have ta:ks.length<l.length:=by
      have:=y8 l en l.length (n+1);rw[<- iW,ya]at this;simp at this; omega
     refine body ks p x _ o { L1 with state:=.busy } _ I3 hx aN hs hnp ta ⟨_,by rw[<- iW,ya]⟩ gy (λ bR I4 rZ uM=>?_) λ bR hJ3 uM=>?_
     . refine⟨_,uM,?_⟩;have I5:=EE o _ _ _ { L1 with state:=.ready,gL:=none } I4 uM
       obtain⟨j1,j2,j3⟩:=Dz _ _ _ I5;simp only[bE,eT,al,dm,bq,bh,db];rw[il j3,eG,bC];refine GV hv hx λ r=>?_;simp only[dC,al,dA,dK,List.drop,oK,bC,dO];refine⟨bI (by omega) (by omega),_,?_,ks++[p],f,p+x.size.toNat,rfl,rfl,rfl,rfl,?_,by omega,by omega,by omega,?_,I5,_,gy,by rw[<- gr]; rfl,rfl,rfl⟩
       . omega
       . congr 1; omega
       . rw[<- iW,ya]; simp
     . refine⟨_,uM,?_⟩;simp only[bE,eT,al,fx,bH];refine aq.mk ⟨_,gy,by simp,?_⟩;exact W3 _ o _ (hJ o _ _ _ hJ3 uM) gy
   . rw[if_neg hs]at ya;exact stop ya
 . simp only[aN,eS,show (false==true)=false from rfl,cN,aQ,bZ,if_false,al,bq];refine stop ?_;cases f with
   | zero=>rfl
   | succ f =>
     simp only[fO];split
     . rw[if_neg (λ h=>aN h.1)]
     . rfl
theorem Kc:∀ {ss:List mv} {ks:List Int},ep ks ss=true->∀ k∈ks,∃ s∈ss,s.c.is k=true
 | [],ks,h,k,hk=>by
   have:ks.isEmpty=true:=h;rw[List.isEmpty_iff]at this;rw[this]at hk; cases hk
 | s::ss,ks,h,k,hk=>by
   rw[ep]at h;split at h
   . cases h
   . rename_i hm;have tB:(ks.take (min (ks.length-(ss.map (·.least)).sum) s.o6)).takeWhile s.c.is <+: ks:=(xx _).trans (List.take_prefix _ _);obtain⟨r,hr⟩:=tB;generalize hq:(ks.take (min (ks.length-(ss.map (·.least)).sum) s.o6)).takeWhile s.c.is=q at *;have ck:∀ k∈q,s.c.is k=true:=λ k hk=>by
      rw[<- hq]at hk;have key:∀ l:List Int,k∈l.takeWhile s.c.is->s.c.is k=true:=λ l=>by
       induction l with
       | nil=>simp
       | cons c l ih =>
         simp only[mV];split
         . rename_i hc;intro h;rcases cK.1 h with rfl|h
           . exact hc
           . exact ih h
         . simp
      exact key _ hk
     rw[<- hr]at h hk;rw[List.drop_left]at h;rcases fT.1 hk with hk|hk
     . exact⟨s,by simp,ck k hk⟩
     . obtain⟨s',h1,h2⟩:=Kc h k hk;exact⟨s',by simp[h1],h2⟩
theorem XA {c:Prop} [Decidable c] {a f:gS} {B:Option gS} {G:Prop} (h:(if c then some a else B)=some f) (h1:a=f->G) (h2:B=some f->G):G:=by
 split at h
 . exact h1 (Option.some.inj h)
 . exact h2 h
theorem W8 {k:Int} {f:gS} (h:bG k=some f):∀ s∈f.kids,s.c.is 1=false:=by
 unfold bG at h
 repeat' (refine XA h (λ h=>?_) (λ h=>?_))
 all_goals first
  | (subst h; simp[jv.is,jB,qw,pA,cE,oo]; done)
  | cases h
theorem Gp {t:Tre} (h:t.ok=true):∀ c∈t.kids,c.kind≠1/\c.ok=true:=by
 cases t with
 | mk k x n m a ks =>
   obtain⟨f,hf,_,h2,h3⟩:=Tre.ru h;intro c hc;refine⟨λ e=>?_,h3 c hc⟩;obtain⟨s,hs,hk⟩:=Kc h2 c.kind (List.mem_map_of_mem hc);rw[e,W8 hf s hs]at hk;cases hk
def tA (k:Int):FuncId:=if jB k=true then 180 else if qw k=true then 182 else if 17<=k/\k<=25 then 183 else if 9<=k/\k<=16 then 184 else if cE k=true then 186 else 187
section
variable {b n:Nat} {U ar aS ad:St} {v:AV} {bB l rest:List Tx} {L:List Nd} {t:Tre}
theorem PS.jG {o:Nat} {z:gm} {bf:St} (h:PS b v ar bB U) (hn:ar.live o=none) (ho:U.loop o=some z) (hs:∀ c,c≠o->bf.live c=U.live c):PS b v ar bB bf:=by
 obtain⟨⟨vl,h1,h2⟩,h3⟩:=h;refine⟨⟨vl,by rw[dS (hs _ (bY h1 ho))]; exact h1,?_⟩,λ c y hc hy ht=>?_⟩
 . refine⟨?_,h2.z,h2.t,yQ _⟩;rcases h2.g with g|⟨τ,r1,r2,r3⟩
   . exact .inl g
   . exact .inr ⟨τ,r1,by rw[nP (hs _ (tZ r2 ho))]; exact r2,r3⟩
 . rw[hs c λ e=>by subst e; rw[hn]at hy; cases hy];exact h3 c y hc hy ht
theorem PS.other {vk:AV} {e sz m:Nat} {lk:List AV} (h:PS b v ar bB U) (he:e≠51) (g:iV ar U vk e sz m lk) (k:∀ c x,(∀ n l,vk≠.vec n (.own c) l)->U.live c=some x->ad.live c=some x):PS b v ar bB ad:=by
 obtain⟨⟨vl,h1,h2⟩,h3⟩:=h;refine⟨⟨vl,(oO g.g k).1 h1,?_⟩,λ c y hc hy ht=>?_⟩
 . refine⟨?_,h2.z,h2.t,yQ _⟩;rcases h2.g with g'|⟨τ,r1,r2,r3⟩
   . exact .inl g'
   . refine .inr ⟨τ,r1,?_,r3⟩;cases e':U.live τ with
     | none=>simp[St.tok,e']at r2
     | some y =>
       have:=k τ y (λ n' l' hv=>by
        rcases g.g with ⟨_,_,g⟩|⟨xd,g,ht,_⟩
        . rw[g]at hv; cases hv
        . rw[g]at hv; cases hv;rw[r2]at ht;simp only[iI,Tok.mk.injEq]at ht;exact he ht.2.1.symm) e'
       rw[nP (this.trans e'.symm)]; exact r2
 . refine k c y (λ n' l' hv=>?_) (h3 c y hc hy ht);rw[g.t _ _ _ hv]at hy; cases hy
end
end Go.Rip
namespace Go.Rip
open Go.Proofs Go.RowKit
section
variable {b n:Nat} {U ar aS ad:St} {v:AV} {bB l rest:List Tx} {L:List Nd} {t:Tre}
theorem PS.cx {c:Nat} {y z:List AV} (h:PS b v ar bB U) (nc:c≠b) (hn:ar.live c=none) (hc:U.box c=some y):PS b v ar bB (U.set c (.box z)):=by
 obtain⟨⟨vl,h1,h2⟩,h3⟩:=h;refine⟨⟨vl,by rw[aO nc.symm]; exact h1,?_⟩,λ c' y' oP EL ht=>?_⟩
 . refine⟨?_,h2.z,h2.t,yQ _⟩;rcases h2.g with g|⟨τ,r1,r2,r3⟩
   . exact .inl g
   . exact .inr ⟨τ,r1,by rw[iL (fB hc r2).symm]; exact r2,r3⟩
 . rw[dW,if_neg λ e=>by subst e; rw[hn]at EL; cases EL];exact h3 c' y' oP EL ht
theorem abK {s:Tre} {pl:List Nat} (hv:Sl v L) (hL:L.length<=1000) (hz:∀ (i:Nat) (y:Nd),L[i]?=some y->y.size<=100000) (hs:gT L n s) (nj:pl=fK (n+1) s.kids) (hf:km (tA s.kind) v s pl):rB v n s:=by
 intro b ar U bB R h hb hk;obtain⟨x,hx,vI,ZX,hxt,hxn,hxm,Od⟩:=hs.sn;have hle:=hs.le;have mD:=s.dJ;have aeu:dA x=Az s x.size:=by unfold dA Az; rw[vI,hxt,hxn,hxm,Od]
 have N1:fO L ((n:Int)+x.size) L.length (n+1)=pl:=by
  rw[nj,ZX]; exact y9 hs
 refine Uq ?_;unfold Up;obtain⟨vl,jr⟩:=h.ld;simp only[bW,al];refine gR (gR (gR (ej jr rfl ?_)));refine GV hv.s hx λ r=>?_;rw[tS];refine⟨by simp[dA],?_⟩;rw[show (dA x++r).take 6=dA x from rfl,cm];intro b4 gk;have m4:(U.new b4 (.box [AV.int .u8 0,AV.str [],AV.int .i64 0,AV.int .i64 0,AV.int .i64 0,AV.int .i64 0])).box b4=some [AV.int .u8 0,AV.str [],AV.int .i64 0,AV.int .i64 0,AV.int .i64 0,AV.int .i64 0]:=aD;rw[cI m4];refine⟨⟨rfl,rfl,by simp⟩,?_⟩;rw[show ay [AV.int .u8 0,AV.str [],AV.int .i64 0,AV.int .i64 0,AV.int .i64 0,AV.int .i64 0] 0 (av (.agg (dA x)))=dA x from rfl];have e4:cX U ((U.new b4 (.box [AV.int .u8 0,AV.str [],AV.int .i64 0,AV.int .i64 0,AV.int .i64 0,AV.int .i64 0])).set b4 (.box (dA x))):=(bg gk).set gk.1;have m4:((U.new b4 (.box [AV.int .u8 0,AV.str [],AV.int .i64 0,AV.int .i64 0,AV.int .i64 0,AV.int .i64 0])).set b4 (.box (dA x))).box b4=some (dA x):=aT;have h4:=h.mono e4;have jr:=e4.aY jr;have n4:b4≠b:=λ e=>by subst e; exact absurd gk.1 (ct (by assumption:U.box b4=some [v,vl,opsV]))
 generalize (U.new b4 _).set b4 _=aS at *;have up:∀ l ad,PS b v aS l ad->PS b v ar l ad:=λ l ad h'=>h4.app h';have h4:=h4.Fq;rw[cm];intro b5 lx;have m5:(aS.new b5 (.box [AV.ag])).box b5=some [.ag]:=aD;have C6:=lx.bO m4;have n5:b5≠b:=(lx.bO jr).symm;have e5:=bg lx (x:=.box [AV.ag]);have h5:=h4.mono e5;have jr:=e5.aY jr;have m4:=e5.aY m4;generalize aS.new b5 (.box [AV.ag])=bf at *;refine gR ?_;rw[ph jr];refine⟨by simp,?_⟩;rw[show ([v,vl,opsV].drop 0).take 1=[v] from rfl];refine zc (n:=n) hv.s hx (bI (by omega) (by omega)) λ bn be bt bR d1 d2 d3 f1 f2 f3 q1 q2 q3 e3=>?_;rw[bE];have h6:=h5.mono e3;have n4n:b4≠bn:=λ e=>ct m4 (e▸f1);have n4e:b4≠be:=λ e=>ct m4 (e▸f2);have n4t:b4≠bt:=λ e=>ct m4 (e▸f3);have n5n:b5≠bn:=λ e=>ct m5 (e▸f1);have n5e:b5≠be:=λ e=>ct m5 (e▸f2);have n5t:b5≠bt:=λ e=>ct m5 (e▸f3);have m4:=e3.aY m4;have m5:=e3.aY m5;have fin:∀ (jk:St) (vk:AV),jk.box b4=some (dA x)->jk.box b5=some [vk]->eW vk pl.length (iX pl)->PS b v aS bB jk ->
  (af (some 0) (.box b4 0)).wp K jk (λ gl U =>
  (ak (some (false,1)) gl U).wp K U (λ gj U =>
  ae K 179 [gj] U (ah (λ hU U =>
  ax hU (
   (ak (some (true,6)) (.box b4 0) U).wp K U (λ ij U =>
   (ak (some (false,1)) (.box b5 0) U).wp K U (λ v37 U =>
   ae K 180 [.box b 0,ij,v37] U (ah (λ iZ U =>
   aq R (AV.aK []) U) (aa R))) (aa R)) (aa R)) (
   (af (some 0) (.box b4 0)).wp K U (λ v40 U =>
   (ak (some (false,1)) v40 U).wp K U (λ kM U =>
   ae K 181 [kM] U (ah (λ fD U =>
   ax fD (
    (ak (some (true,6)) (.box b4 0) U).wp K U (λ lE U =>
    (ak (some (false,1)) (.box b5 0) U).wp K U (λ mg U =>
    ae K 182 [.box b 0,lE,mg] U (ah (λ v46 U =>
    aq R (AV.aK []) U) (aa R))) (aa R)) (aa R)) (
    (af (some 0) (.box b4 0)).wp K U (λ ri U =>
    (ak (some (false,1)) ri U).wp K U (λ v49 U =>
    (aw .geq (BT.mk false false false none false) true v49 (AV.int .u8 17)).wp K U (λ ji U =>
    ao K (aM ji true) (af (some 0) (.box b4 0)) (λ mU =>
    ao K (aM ji true) (ak (some (false,1)) mU U) (λ v53 =>
    ao K (aM ji true) (aw .leq (BT.mk false false false none false) true v53 (AV.int .u8 25)) (λ nC =>
    (bN ji nC (AV.bool false)).wp K U (λ mJ U =>
    ax mJ (
     (ak (some (true,6)) (.box b4 0) U).wp K U (λ oJ U =>
     (ak (some (false,1)) (.box b5 0) U).wp K U (λ qn U =>
     ae K 183 [.box b 0,oJ,qn] U (ah (λ v59 U =>
     aq R (AV.aK []) U) (aa R))) (aa R)) (aa R)) (
     (af (some 0) (.box b4 0)).wp K U (λ nV U =>
     (ak (some (false,1)) nV U).wp K U (λ yC U =>
     (aw .geq (BT.mk false false false none false) true yC (AV.int .u8 9)).wp K U (λ rj U =>
     ao K (aM rj true) (af (some 0) (.box b4 0)) (λ pW =>
     ao K (aM rj true) (ak (some (false,1)) pW U) (λ BQ =>
     ao K (aM rj true) (aw .leq (BT.mk false false false none false) true BQ (AV.int .u8 16)) (λ td =>
     (bN rj td (AV.bool false)).wp K U (λ sV U =>
     ax sV (
      (ak (some (true,6)) (.box b4 0) U).wp K U (λ v70 U =>
      (ak (some (false,1)) (.box b5 0) U).wp K U (λ BS U =>
      ae K 184 [.box b 0,v70,BS] U (ah (λ v72 U =>
      aq R (AV.aK []) U) (aa R))) (aa R)) (aa R)) (
      (af (some 0) (.box b4 0)).wp K U (λ wY U =>
      (ak (some (false,1)) wY U).wp K U (λ v75 U =>
      ae K 185 [v75] U (ah (λ v76 U =>
      ax v76 (
       (ak (some (true,6)) (.box b4 0) U).wp K U (λ yD U =>
       (ak (some (false,1)) (.box b5 0) U).wp K U (λ IL U =>
       ae K 186 [.box b 0,yD,IL] U (ah (λ v80 U =>
       aq R (AV.aK []) U) (aa R))) (aa R)) (aa R)) (
       (ak (some (true,6)) (.box b4 0) U).wp K U (λ v28 U =>
       (ak (some (false,1)) (.box b5 0) U).wp K U (λ ef U =>
       ae K 187 [.box b 0,v28,ef] U (ah (λ v30 U =>
       aq R (AV.aK []) U) (aa R))) (aa R)) (aa R))) (aa R))) (aa R)) (aa R))) (aa R))))) (aa R)) (aa R)) (aa R))) (aa R))))) (aa R)) (aa R)) (aa R))) (aa R))) (aa R)) (aa R))) (aa R))) (aa R)) (aa R):=by
  intro jk vk m4 m5 dU h7;have call:∀ f,tA s.kind=f->(ak (some (true,6)) (.box b4 0) jk).wp K jk (λ ij U=>(ak (some (false,1)) (.box b5 0) U).wp K U (λ v37 U=>ae K f [.box b 0,ij,v37] U (ah (λ iZ U=>aq R (AV.aK []) U) (aa R))) (aa R)) (aa R):=by
   intro f hfe;rw[ph m4];refine⟨by simp[dA],?_⟩;rw[show ((dA x).drop 0).take 6=dA x from rfl];refine ej m5 rfl ?_;rw[aeu,<- hfe];exact hf _ _ _ _ _ _ _ dU h7 hb λ ad h'=>aq.mk (hk ad (up _ _ h'))
  have S9:∀ {K':AV->St->Prop} {Kp:AV->St->Prop},K' (.int .u8 s.kind) jk->(af (some 0) (.box b4 0)).wp K jk (λ gl U=>(ak (some (false,1)) gl U).wp K U K' Kp) Kp:=by
   intro K' Kp hK;refine gR (ej m4 (show _=AV.int .u8 x.kind::_ from rfl) ?_);rw[vI]; exact hK
  refine S9 ((Fg s.kind).go ?_);cases c1:jB s.kind with
  | true=>exact dz (call 180 (by unfold tA; rw[if_pos c1]))
  | false =>
  refine cY (S9 ((Fj s.kind).go ?_));cases c2:qw s.kind with
  | true=>exact dz (call 182 (by unfold tA; rw[if_neg (by simp[c1]),if_pos c2]))
  | false =>
  refine cY (S9 ?_);have Zw:tA s.kind=if 17<=s.kind/\s.kind<=25 then 183 else if 9<=s.kind/\s.kind<=16 then 184 else if cE s.kind=true then 186 else 187:=by
   unfold tA; rw[if_neg (by simp[c1]),if_neg (by simp[c2])]
  have rng:∀ (lo hi:Int) (A B:AV->St->Prop),(lo<=s.kind/\s.kind<=hi->A (.bool true) jk)->(¬ (lo<=s.kind/\s.kind<=hi)->B (.bool false) jk) ->
   (aw .geq (BT.mk false false false none false) true (.int .u8 s.kind) (AV.int .u8 lo)).wp K jk (λ ji U =>
   ao K (aM ji true) (af (some 0) (.box b4 0)) (λ mU =>
   ao K (aM ji true) (ak (some (false,1)) mU U) (λ v53 =>
   ao K (aM ji true) (aw .leq (BT.mk false false false none false) true v53 (AV.int .u8 hi)) (λ nC =>
   (bN ji nC (AV.bool false)).wp K U (λ mJ U=>ax mJ (A mJ U) (B mJ U)) (aa R))))) (aa R):=by
   intro lo hi A B hA hB;rw[jc,al]
   by_cases h1:lo<=s.kind
   . simp only[h1,dG,bo,iY,aP,cB];refine jL (eZ m4 (show _=AV.int .u8 x.kind::_ from rfl) ?_);rw[vI,nG,aJ];simp only[aQ,if_true,al]
     by_cases h2:s.kind<=hi
     . simp only[h2,dG]; exact dz (hA ⟨h1,h2⟩)
     . simp only[h2,eS]; exact cY (hB λ h3=>h2 h3.2)
   . simp only[h1,eS,bo,show (false==true)=false from rfl,aP,cN,aQ,bZ,if_false,al];exact cY (hB λ h3=>h1 h3.1)
  refine rng 17 25 _ _ (λ h1=>call 183 (by rw[Zw,if_pos h1])) λ h1=>S9 (rng 9 16 _ _ (λ h2=>call 184 (by rw[Zw,if_neg h1,if_pos h2])) λ h2=>S9 ((zx s.kind).go ?_));cases c3:cE s.kind with
  | true=>exact dz (call 186 (by rw[Zw,if_neg h1,if_neg h2,if_pos c3]))
  | false=>exact cY (call 187 (by rw[Zw,if_neg h1,if_neg h2,if_neg (by simp[c3])]))
 refine Db (n:=n) (en:=(n:Int)+x.size)
  (λ o ks ad=>(ad.box bn=some [.int .i64 (n:Nat)]/\ad.box be=some [.int .i64 ((n:Int)+x.size)]/\ad.box bt=some [v])/\ad.box b4=some (dA x)/\(∃ vk,ad.box b5=some [vk]/\iV aS ad vk 3 1 ks.length (iX ks))/\aS.live o=none/\PS b v aS bB ad)
  (λ _ _=>False) hv.s (by omega) (by omega) (by omega)
  (λ o ks ad hI=>hI.1) (λ o ks ad L0 L' hI ho=>?_) (λ o ad L0 L' hJ ho=>hJ) (λ ks kg y ad o L1 q hI hy aN ahi hnk ta tB ke SG ZQ=>?_) (λ ks ad o L0 iW hI Hn=>?_) (λ ad o L0 hJ Hn=>hJ.elim) (λ o L0 ho=>?_)
 . obtain⟨⟨i1,i2,i3⟩,i4,⟨vk,i5,i6⟩,i7,i8⟩:=hI;have kb:∀ {c y},ad.box c=some y->(ad.set o (.loop L')).box c=some y:=λ h=>by rw[aO (bY h ho)]; exact h
   exact⟨⟨kb i1,kb i2,kb i3⟩,kb i4,⟨vk,kb i5,i6.loop ho (i6.ex.set i7)⟩,i7,i8.jG i7 ho λ c hc=>by rw[dW,if_neg hc]⟩
 . obtain⟨⟨i1,i2,i3⟩,i4,⟨vk,i5,i6⟩,i7,i8⟩:=hI;refine ej i5 rfl ?_;refine Jw rfl rfl ?_;refine FN i6 (m:=1) (l2:=[.int .i64 (kg:Nat)]) rfl rfl (by omega) (by omega) λ du v' g2 k2=>?_;have kb:∀ {c y},ad.box c=some y->du.box c=some y:=λ h=>(oO i6.g k2).1 h;have kl:∀ {c L},ad.loop c=some L->du.loop c=some L:=λ h=>(oO i6.g k2).2 h;have i8:=i8.other (by decide) i6 k2;have sC:v'.dw=true/\av v'=[v']:=by
    rcases g2.g with ⟨h0,_,_⟩|⟨τ,r1,_,_⟩
    . omega
    . rw[r1]; exact⟨rfl,rfl⟩
   have i5:=kb i5;rw[cI i5];refine⟨⟨sC.1,by rw[sC.2]; rfl,by simp⟩,?_⟩;have i8':PS b v aS bB (du.set b5 (.box (ay [vk] 0 (av v')))):=i8.cx n5 lx.1 i5;refine SG _ ⟨⟨?_,?_,?_⟩,?_,⟨v',?_,?_⟩,i7,i8'⟩ ?_ ?_
   . rw[aO n5n.symm]; exact kb i1
   . rw[aO n5e.symm]; exact kb i2
   . rw[aO n5t.symm]; exact kb i3
   . rw[aO C6]; exact kb i4
   . rw[aT,sC.2]; rfl
   . have:iV aS (du.set b5 (.box (ay [vk] 0 (av v')))) v' 3 1 (ks.length+1) (iX ks++[.int .i64 (kg:Nat)]):=by
      refine⟨?_,g2.z,g2.t,g2.ex.set lx.1⟩;rcases g2.g with g|⟨τ,r1,r2,r3⟩
      . exact .inl g
      . exact .inr ⟨τ,r1,by rw[iL (fB i5 r2).symm]; exact r2,r3⟩
     simpa [iX] using this
   . exact hz _ _ hy
   . rw[gU]; exact kl ke;rw[dW,if_neg (bY i5 (kl ke)).symm]
 . obtain⟨⟨i1,i2,i3⟩,i4,⟨vk,i5,i6⟩,i7,i8⟩:=hI;have kb:∀ {c y},ad.box c=some y->(ad.del o).box c=some y:=λ h=>by rw[jl (bY h Hn)]; exact h
   have i8:=i8.jG (bf:=ad.del o) i7 Hn λ c hc=>by rw[jX,if_neg hc]
   rw[N1]at iW;subst iW;exact fin _ vk (kb i4) (kb i5) i6.sl i8
 . have e:=bg ho (x:=.loop L0);exact⟨⟨e.aY q1,e.aY q2,e.aY q3⟩,e.aY m4,⟨.ag,e.aY m5,iV.nil ((e5.trans e3).trans e)⟩,(e5.trans e3).fresh ho.1,h6.mono e⟩
end
end Go.Rip
namespace Go.Rip
open Go.Proofs Go.RowKit
section
variable {v:AV} {L:List Nd}
theorem aef {s:Tre} {pl:List Nat} (hv:eW v L.length (cg L)) (h9:s.flat.length<=900) (ho:s.ok=true) (h1:s.kind≠1) (hp:fZ v L pl s.kids):km (tA s.kind) v s pl:=by
 cases s with
 | mk k x nn m a ks =>
   obtain⟨fo,eJ,g1,g2,g3⟩:=Tre.ru ho;obtain⟨f1,f2,f3,f4,f5,f6⟩:=iw g1;have hlen:(Tre.bu ks).length+1=(Tre.mk k x nn m a ks).flat.length:=by rw[Tre.dZ]; simp
   have ta:ks.length<=900:=by have:=Tre.oN ks; omega
   have hp:fZ v L pl ks:=hp;have rX:k≠1:=h1;have hk:(k=2\/(k=3\/k=4))\/k=5\/(k=6\/k=7)\/k=8\/k=9\/k=10\/(k=11\/k=15)\/k=12\/k=13\/k=14\/k=16\/(k∈oQ/\k≠25)\/k=19\/k=25\/k=26\/(k=27\/k=28\/k=29\/k=30)\/k=31\/k=32\/k=33\/k=34\/k=35\/k=36\/k=37:=by
    by_cases hr:2<=k/\k<=37
    . simp only[oQ,cK,List.not_mem_nil,or_false]; omega
    . exfalso;unfold bG at eJ;rw[if_neg (by omega),if_neg (by omega),if_neg (by omega),if_neg (by omega),if_neg (by omega),if_neg (by omega),if_neg (by omega),if_neg (by omega),if_neg (by omega),if_neg (by omega),if_neg (by omega),if_neg (by omega),if_neg (by omega),if_neg (by omega),if_neg (by omega),if_neg (by omega),if_neg (by omega),if_neg (by omega),if_neg (by omega),if_neg (by omega),if_neg (by omega)]at eJ;cases eJ
   have nil:ep (ks.map Tre.kind) []=true->ks=[]:=λ h=>by
    have:(ks.map Tre.kind).isEmpty=true:=h;simpa using this
   have term:∀ {c:Tre},jv.term.is c.kind=true->cE c.kind=true:=λ h=>h;rcases hk with (rfl|hk)|rfl|hk|rfl|rfl|rfl|hk|rfl|rfl|rfl|rfl|⟨hk,uL⟩|rfl|rfl|rfl|hk|rfl|rfl|rfl|rfl|rfl|rfl|rfl
   . obtain rfl:(⟨true,false,false,[⟨.type,1,1⟩]⟩:gS)=fo:=by simpa [bG] using eJ
     obtain⟨A,rfl,_⟩:=nW g2;exact MN hp
   . have ly:fo=⟨true,false,false,[⟨.kind 5,0,900⟩,⟨.base,1,1⟩,⟨.term,1,1⟩]⟩:=by rcases hk with rfl|rfl<;>simpa [bG] using eJ.symm
     subst ly;obtain⟨ps,B,C,rfl,_,_,_,_⟩:=zb (by omega) g2;have:tA k=180:=by rcases hk with rfl|rfl<;>rfl
     show km (tA k) _ _ _;rw[this];exact WW hk (by simp at ta; omega) hp
   . obtain rfl:(⟨true,false,false,[⟨.type,1,1⟩]⟩:gS)=fo:=by simpa [bG] using eJ
     obtain⟨A,rfl,_⟩:=nW g2;exact PE hp
   . have ly:fo=⟨false,true,false,[]⟩:=by rcases hk with rfl|rfl<;>simpa [bG] using eJ.symm
     subst ly;obtain rfl:=nil g2;have:tA k=182:=by rcases hk with rfl|rfl<;>rfl
     show km (tA k) _ _ _;rw[this];exact RZ hk f3
   . obtain rfl:(⟨false,false,false,[⟨.base,2,900⟩]⟩:gS)=fo:=by simpa [bG] using eJ
     obtain⟨hl,_⟩:=Cg g2;obtain⟨ps,B,rfl⟩:=ny (l:=ks) (by omega);exact PC (by simp at ta; omega) hp
   . obtain rfl:(⟨false,false,false,[⟨.term,2,900⟩]⟩:gS)=fo:=by simpa [bG] using eJ
     obtain⟨hl,hc⟩:=Cg g2
     match ks,hl with
     | A::ts,_=>exact W0 (by simp at ta; omega) hv hp λ t ht=>hc t ht
   . obtain rfl:(⟨false,false,false,[⟨.term,3,3⟩]⟩:gS)=fo:=by simpa [bG] using eJ
     obtain⟨A,B,C,rfl,hA,hB,hC⟩:=Z3 g2;exact abh hv hp hA hB hC
   . have ly:fo=⟨false,false,false,[⟨.term,2,2⟩]⟩:=by rcases hk with rfl|rfl<;>simpa [bG] using eJ.symm
     subst ly;obtain⟨A,B,rfl,hA,hB⟩:=za g2;rcases hk with rfl|rfl
     . exact J8 (k:=11) (w:=gH) (u:=sY) (by simp) hv hp hA hB
     . exact J8 (k:=15) (w:=ia) (u:=fe) (by simp) hv hp hA hB
   . obtain rfl:(⟨true,true,true,[⟨.term,1,1⟩]⟩:gS)=fo:=by simpa [bG] using eJ
     obtain⟨A,rfl,hA⟩:=nW g2;exact WY f3 f4 hv hp hA
   . obtain rfl:(⟨true,false,false,[⟨.term,2,2⟩]⟩:gS)=fo:=by simpa [bG] using eJ
     obtain⟨A,B,rfl,hA,hB⟩:=za g2;exact PD hv hp hA hB
   . obtain rfl:(⟨true,true,false,[⟨.term,1,1⟩]⟩:gS)=fo:=by simpa [bG] using eJ
     obtain⟨A,rfl,hA⟩:=nW g2;exact MO f3 hv hp hA
   . obtain rfl:(⟨true,false,false,[⟨.term,1,1⟩]⟩:gS)=fo:=by simpa [bG] using eJ
     obtain⟨A,rfl,hA⟩:=nW g2;exact WZ hv hp hA
   . have ly:fo=⟨false,false,false,[⟨.term,2,2⟩]⟩:=by
      simp only[oQ,cK,List.not_mem_nil,or_false]at hk;rcases hk with rfl|rfl|rfl|rfl|rfl|rfl|rfl|rfl
      all_goals first
       | exact absurd rfl uL
       | simpa [bG] using eJ.symm
     subst ly;obtain⟨A,B,rfl,hA,hB⟩:=za g2;have:tA k=183:=by
      simp only[oQ,cK,List.not_mem_nil,or_false]at hk;rcases hk with rfl|rfl|rfl|rfl|rfl|rfl|rfl|rfl<;>rfl
     show km (tA k) _ _ _;rw[this];exact NM hk (.inr ⟨uL,B,rfl,hB⟩) hv hp hA
   . obtain rfl:(⟨false,false,false,[⟨.term,1,1⟩]⟩:gS)=fo:=by simpa [bG] using eJ
     obtain⟨A,rfl,hA⟩:=nW g2;exact WX hv hp hA
   . obtain rfl:(⟨false,true,false,[⟨.term,1,1⟩]⟩:gS)=fo:=by simpa [bG] using eJ
     obtain⟨A,rfl,hA⟩:=nW g2;exact NM (k:=25) (rs:=[]) (by decide) (.inl ⟨rfl,rfl,f3⟩) hv hp hA
   . obtain rfl:(⟨false,true,false,[]⟩:gS)=fo:=by simpa [bG] using eJ
     obtain rfl:=nil g2;exact W2 f3
   . have ly:fo=⟨false,false,false,[]⟩:=by rcases hk with rfl|rfl|rfl|rfl<;>simpa [bG] using eJ.symm
     subst ly;obtain rfl:=nil g2;rcases hk with rfl|rfl|rfl|rfl
     . exact wq (k:=27) (w:=dN) (by simp)
     . exact wq (k:=28) (w:=dR) (by simp)
     . exact wq (k:=29) (w:=fU) (by simp)
     . exact wq (k:=30) (w:=ik) (by simp)
   . obtain rfl:(⟨true,false,false,[]⟩:gS)=fo:=by simpa [bG] using eJ
     obtain rfl:=nil g2;exact R3
   . obtain rfl:(⟨true,false,false,[]⟩:gS)=fo:=by simpa [bG] using eJ
     obtain rfl:=nil g2;exact W1
   . obtain rfl:(⟨true,false,false,[]⟩:gS)=fo:=by simpa [bG] using eJ
     obtain rfl:=nil g2;exact R4
   . exact R0 (by omega) hp
   . obtain rfl:(⟨false,false,false,[⟨.kind 37,1,900⟩,⟨.term,1,1⟩]⟩:gS)=fo:=by simpa [bG] using eJ
     obtain⟨ps,B,rfl,hl,_,hB⟩:=ET (by omega) g2;exact abi (by simp at ta; omega) hl hv hp hB
   . obtain rfl:(⟨false,false,false,[⟨.term,1,1⟩,⟨.kind 37,1,1⟩,⟨.term,1,1⟩]⟩:gS)=fo:=by simpa [bG] using eJ
     obtain⟨A,B,C,rfl,hA,_,hC⟩:=Oo g2;exact MP hv hp hA hC
   . obtain rfl:(⟨true,false,false,[]⟩:gS)=fo:=by simpa [bG] using eJ
     obtain rfl:=nil g2;exact R5
theorem Ln (hv:Sl v L) (hL:L.length<=1000) (hz:∀ (i:Nat) (y:Nd),L[i]?=some y->y.size<=100000):∀ (N:Nat) (s:Tre) (n:Nat),s.flat.length<=N->gT L n s->s.flat.length<=900->s.ok=true->s.kind≠1->rB v n s
 | 0,s,n,hN,_,_,_,_=>by have:=s.dJ; omega
 | N+1,s,n,hN,hs,h9,ho,h1=>by
   have hk:=Gp ho;have CQ:=nI s;refine abK hv hL hz hs rfl (aef hv.s h9 ho h1 ⟨ry _ _,λ i q t hq ht=>?_⟩);obtain⟨u,hu,ZT⟩:=zJ hs.kids hq;rw[ht]at hu;obtain rfl:t=u:=by simpa using hu
   have hm:=gw ht;have aN:=Tre.um hm;obtain⟨k1,k2⟩:=hk t hm;obtain⟨x,hx,vI,_⟩:=ZT.sn;exact⟨Ln hv hL hz N t q (by omega) ZT (by omega) k2 k1,x,hx,vI⟩
end
end Go.Rip
