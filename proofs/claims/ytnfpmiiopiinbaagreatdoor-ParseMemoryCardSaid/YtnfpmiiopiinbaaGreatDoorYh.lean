import Derived.Test.YtnfpmiiopiinbaaGreatDoorYg
set_option linter.all false
namespace Go.Rip
open Go.Proofs Go.RowKit
variable {k:Int}{A B:Tre}
section
variable {b n:Nat}{U aj aK aa:St}{v:AV}{aS l rest:List Tx}{L:List Nd}{t:Tre}{x:aT}{nn m a:Int}{pl:List Nat}
def uz{C:dQ}{K':am}{Kp:am}{mm:Nat}{ks vs ks' vs':List AV}{y:AV}{ty:TypeId}(h:U.mp mm=some (ks,vs))(hf:ow .i (co k) ks 0=some none)(hi:jG (co k) y ks vs=(ks',vs')) :
 (ff (some (.i,ty)) (.mp mm) (co k) y U).wp C U K' Kp=K' (.az []) (U.set mm (.mp ks' vs')):=by
 simp only[ff,h,hf,sR,hi];rfl
def aaG(hn:ek nn):lE 186 v (.mk 26 x nn m a []) pl:=by
 intro b aj U aS R z vk cE h hb hk;have e:(Tre.mk 26 x nn m a []).pr=[kL nn]:=by rw[Tre.ee];simp[c8]
 rw[e]at hb;refine tM ?_;dsimp only[yu,ae,bg,ak,ah,ar,dI,ej,aC];refine iJ h λb4 aK n4 m4 h1 up=>jo n4 m4 h1 (show _=some (co 26) from rfl) ?_;refine ic rfl (jo n4 m4 h1 rfl ?_);refine tN hn h1 hb λaV h2 _=>aq.mk (hk _ (up _ _ ?_));rw[e];exact h2
def TC:lE 186 v (.mk 31 x nn m a []) pl:=by
 intro b aj U aS R z vk cE h hb hk;have e:(Tre.mk 31 x nn m a []).pr=[lL].map bo++[fp x]:=by rw[Tre.ee];simp[c8]
 rw[e]at hb;refine tM ?_;dsimp only[yu,ae,bg,ak,ah,ar,dI,ej,aC];refine iJ h λb4 aK n4 m4 h1 up=>jo n4 m4 h1 (show _=some (co 31) from rfl) ?_;refine bV d7 (ic rfl ?_);refine dV (eS d7 d7 h1 hb λaV h2 b2=>jo n4 m4 h2 rfl ?_);refine pv h2 b2 λbG h3 _=>aq.mk (hk _ (up _ _ ?_));rw[e];simpa [Tre.text,Tre.n,Tre.m] using h3
def aaF:lE 186 v (.mk 32 x nn m a []) pl:=by
 intro b aj U aS R z vk cE h hb hk;have e:(Tre.mk 32 x nn m a []).pr=[ni].map bo++[fp x]:=by rw[Tre.ee];simp[c8]
 rw[e]at hb;refine tM ?_;dsimp only[yu,ae,bg,ak,ah,ar,dI,ej,aC];refine iJ h λb4 aK n4 m4 h1 up=>jo n4 m4 h1 (show _=some (co 32) from rfl) ?_;refine bV d7 (bV d7 (ic rfl ?_));refine dV (eS d7 d7 h1 hb λaV h2 b2=>jo n4 m4 h2 rfl ?_);refine pv h2 b2 λbG h3 _=>aq.mk (hk _ (up _ _ ?_));rw[e];simpa [Tre.text,Tre.n,Tre.m] using h3
def TD:lE 186 v (.mk 33 x nn m a []) pl:=by
 intro b aj U aS R z vk cE h hb hk;have e:(Tre.mk 33 x nn m a []).pr=[fp x]:=by rw[Tre.ee];simp[c8]
 rw[e]at hb;refine tM ?_;dsimp only[yu,ae,bg,ak,ah,ar,dI,ej,aC];refine iJ h λb4 aK n4 m4 h1 up=>jo n4 m4 h1 (show _=some (co 33) from rfl) ?_;refine bV d7 (bV d7 (bV d7 (ic rfl (jo n4 m4 h1 rfl ?_))));refine pv h1 hb λbG h3 _=>aq.mk (hk _ (up _ _ ?_));rw[e];exact h3
def TB{ks:List Tre}(GN:ks.length<=1000)(hp:hZ v L pl ks):lE 186 v (.mk 34 x nn m a ks) pl:=by
 intro b aj U aS R z vk cE h hb hk;have e:(Tre.mk 34 x nn m a ks).pr=fp x::([dM].map bo++(eH ep (ks.map Tre.pr)++([dE].map bo++[]))):=by
  rw[Tre.ee];simp only[c8,List.map_map];simp[Function.comp_def]
 rw[e]at hb;refine tM ?_;dsimp only[yu,ae,bg,ak,ah,ar,dI,ej,aC];refine iJ h λb4 aK n4 m4 h1 up=>jo n4 m4 h1 (show _=some (co 34) from rfl) ?_;refine bV d7 (bV d7 (bV d7 (bV d7 (ic rfl (jo n4 m4 h1 rfl ?_)))));refine pv h1 hb λaV h2 b2=>?_;refine dV (eS d7 d7 h2 b2 λbG h3 b3=>?_);refine EC cE hp GN h3 b3 λcI h4 tq=>?_;refine dV (eS d7 d7 h4 tq λdc h5 _=>aq.mk (hk _ (up _ _ ?_)));rw[e];simpa [Tre.text,Tre.n,Tre.m] using h5
def yN{w:aT}(qY:(k,w)∈[((27:Int),eA),(28,eK),(29,gG),(30,iZ)]):lE 186 v (.mk k x nn m a []) pl:=by
 intro b aj U aS R z vk cE h hb hk;have e:(Tre.mk k x nn m a []).pr=[w].map bo++[]:=by
  rw[Tre.ee];simp only[dy,List.not_mem_nil,or_false,jK]at qY;rcases qY with ⟨rfl,rfl⟩|⟨rfl,rfl⟩|⟨rfl,rfl⟩|⟨rfl,rfl⟩<;>simp[c8]
 rw[e]at hb;have hw:w≠[]:=by
  simp only[dy,List.not_mem_nil,or_false,jK]at qY;rcases qY with ⟨_,rfl⟩|⟨_,rfl⟩|⟨_,rfl⟩|⟨_,rfl⟩<;>decide
 have GX:27<=k/\k<=30:=by
  simp only[dy,List.not_mem_nil,or_false,jK]at qY;omega
 refine tM ?_;dsimp only[yu,ae,bg,ak,ah,ar,dI,ej,aC];refine iJ h λb4 aK n4 m4 h1 up=>jo n4 m4 h1 (show _=some (co k) from rfl) ?_;refine bV d6 (bV d6 (bV d6 (bV d6 (bV d6 ?_))));rw[my];intro mm wi;rw[show NV.at mm .mp=AV.mp mm from rfl];rw[uz (ks':=[co 27]) (vs':=[.str eA]) zb rfl rfl];rw[uz (ks':=[co 27,co 28]) (vs':=[.str eA,.str eK]) jx rfl rfl];rw[uz (ks':=[co 27,co 28,co 29]) (vs':=[.str eA,.str eK,.str gG]) jx rfl rfl];rw[uz (ks':=[co 27,co 28,co 29,co 30]) (vs':=[.str eA,.str eK,.str gG,.str iZ]) jx rfl rfl];have e1:dt aK (((((aK.new mm (.mp [] [])).set mm (.mp [co 27] [.str eA])).set mm (.mp [co 27,co 28] [.str eA,.str eK])).set mm (.mp [co 27,co 28,co 29] [.str eA,.str eK,.str gG])).set mm (.mp [co 27,co 28,co 29,co 30] [.str eA,.str eK,.str gG,.str iZ])) :=
  ((((bK wi).set wi.1).set wi.1).set wi.1).set wi.1
 have UU:((((((aK.new mm (.mp [] [])).set mm (.mp [co 27] [.str eA])).set mm (.mp [co 27,co 28] [.str eA,.str eK])).set mm (.mp [co 27,co 28,co 29] [.str eA,.str eK,.str gG])).set mm (.mp [co 27,co 28,co 29,co 30] [.str eA,.str eK,.str gG,.str iZ]))).mp mm=some ([co 27,co 28,co 29,co 30],[.str eA,.str eK,.str gG,.str iZ]):=jx;have h2:=h1.mono e1;generalize ((((aK.new mm (.mp [] [])).set mm _).set mm _).set mm _).set mm _=aV at *;refine jo n4 m4 h2 (show _=some (co k) from rfl) ?_;have Ua:fK (some (.i,9)) (some (AV.str [])) (.mp mm) (co k) false aV=.val (.str w):=by
  simp only[fK,mM,UU];simp only[dy,List.not_mem_nil,or_false,jK]at qY;rcases qY with ⟨rfl,rfl⟩|⟨rfl,rfl⟩|⟨rfl,rfl⟩|⟨rfl,rfl⟩<;>rfl
 rw[Ua,ad];refine dV (eS (rest:=[]) (λu hu=>by rw[lT]at hu;subst hu;exact hw) d8 h2 hb λbG h3 _=>aq.mk (hk _ (up _ _ ?_)));rw[e,iM];exact h3
def Ri(hp:hZ v L pl [A]):lE 187 v (.mk 5 x nn m a [A]) pl:=by
 intro b aj U aS R z vk cE h hb hk;have e:(Tre.mk 5 x nn m a [A]).pr=fp x::([ef].map bo++(A.pr++[])):=by rw[Tre.ee];simp[c8]
 rw[e]at hb;obtain⟨p,rfl,g,_⟩:=hp.one;refine zj ?_;dsimp only[DY,di,ae,bg,ak,ah,ar,dI,cJ,aC];refine iJ h λb4 aK n4 m4 h1 up=>jo n4 m4 h1 (show _=some (co 5) from rfl) ?_;refine ic rfl (jo n4 m4 h1 rfl ?_);refine pv h1 hb λaV h2 b2=>?_;refine dV (eS d7 d7 h2 b2 λbG h3 b3=>?_);refine lu (i:=0) cE rfl ?_;refine vi g h3 b3 λcI h4 _=>aq.mk (hk _ (up _ _ ?_));rw[e];simpa [Tre.text,Tre.n,Tre.m] using h4
def TE:lE 187 v (.mk 37 x nn m a []) pl:=by
 intro b aj U aS R z vk cE h hb hk;have e:(Tre.mk 37 x nn m a []).pr=[fp x]:=by rw[Tre.ee];simp[c8]
 rw[e]at hb;refine zj ?_;dsimp only[DY,di,ae,bg,ak,ah,ar,dI,cJ,aC];refine iJ h λb4 aK n4 m4 h1 up=>jo n4 m4 h1 (show _=some (co 37) from rfl) ?_;refine bV d7 (ic rfl (jo n4 m4 h1 rfl ?_));refine pv h1 hb λbG h3 _=>aq.mk (hk _ (up _ _ ?_));rw[e];exact h3
def aez{ps:List Tre}(GN:ps.length<=900)(yV:1<=ps.length)(hv:dz v L.length (bM L))(hp:hZ v L pl (ps++[B]))(hB:cP B.kind):lE 187 v (.mk 35 x nn m a (ps++[B])) pl:=by
 intro b aj U aS R z vk cE h hb hk;have e:(Tre.mk 35 x nn m a (ps++[B])).pr=[wJ,dM].map bo++(eH ep (ps.map Tre.pr)++(eT [dE] [B]++[])):=by
  rw[Tre.ee];have e1:(ps++[B]).map (λt=>(t.kind,t.pr))=(ps.map λt=>(t.kind,t.pr))++[(B.kind,B.pr)]:=by simp
  rw[e1];generalize hq:ps.map (λt=>(t.kind,t.pr))=q;have e3:ps.map Tre.pr=q.map (·.2):=by rw[<-hq,List.map_map];rfl
  rw[e3];simp[c8,eT,pq]
 rw[e]at hb;have hlen:=hp.len;rw[dx,List.length_singleton]at hlen;obtain⟨sG,tZ⟩:=hp.app;have yU:=sG.len;have qI:=tZ.len;have cD:pl≠[]:=λe=>by rw[e]at hlen;simp at hlen
 refine zj ?_;dsimp only[DY,di,ae,bg,ak,ah,ar,dI,cJ,aC];refine iJ h λb4 aK n4 m4 h1 up=>jo n4 m4 h1 (show _=some (co 35) from rfl) ?_;refine bV d7 (bV d7 (ic rfl ?_));rw[cE.len,ad,s0];refine⟨aX d6 d6,?_⟩;have pJ:((pl.length:Int)-1)=((ps.length:Nat):Int):=by omega
 rw[pJ];refine rA (eS d7 d7 h1 hb λaV h2 b2=>?_);refine mc (i:=0) (j:=ps.length) cE cD d6 d6 (gp _ _ _) rfl λc=>?_;rw[eR];refine EC (.inr ⟨_,rfl⟩) sG d6 h2 b2 λbG h3 b3=>?_;refine mc (i:=ps.length) (j:=pl.length) cE cD d6 d6 rfl (gp _ _ _) λc=>?_;rw[oO];refine dV (mv hv (.inr ⟨_,rfl⟩) tZ (by simp[hB]) rfl d8 d7 h3 b3 λpE h8 _=>aq.mk (hk _ (up _ _ ?_)));rw[e];simpa using h8
def Ow{C:Tre}(hv:dz v L.length (bM L))(hp:hZ v L pl [A,B,C])(hA:cP A.kind)(hC:cP C.kind):lE 187 v (.mk 36 x nn m a [A,B,C]) pl:=by
 intro b aj U aS R z vk cE h hb hk;have e:(Tre.mk 36 x nn m a [A,B,C]).pr=[qP].map bo++(eT [vS] [A]++([dF,uB].map bo++(B.pr++(eT [sW] [C]++([sX].map bo++[]))))):=by
  rw[Tre.ee];simp[c8,eT]
 rw[e]at hb;obtain⟨p,q,r,rfl,⟨gA,xA,Uo,T9⟩,⟨gB,_⟩,gC,xC,hxC,hkC⟩:=hp.three;have hpA:hZ v L [p] [A]:=⟨rfl,λi n t h1 h2=>by
  match i,h1,h2 with
  | 0,h1,h2=>simp at h1 h2;subst h1 h2;exact⟨gA,xA,Uo,T9⟩⟩
 have hpC:hZ v L [r] [C]:=⟨rfl,λi n t h1 h2=>by
  match i,h1,h2 with
  | 0,h1,h2=>simp at h1 h2;subst h1 h2;exact⟨gC,xC,hxC,hkC⟩⟩
 refine zj ?_;dsimp only[DY,di,ae,bg,ak,ah,ar,dI,cJ,aC];refine iJ h λb4 aK n4 m4 h1 up=>jo n4 m4 h1 (show _=some (co 36) from rfl) ?_;refine bV d7 (bV d7 (bV d7 (ic rfl ?_)));refine dV (eS d7 d7 h1 hb λaV h2 b2=>?_);refine mc (i:=0) (j:=1) cE d8 d6 d8 rfl rfl λc=>?_;refine dV (mv (pl:=[p]) hv (.inr ⟨_,rfl⟩) hpA (by simp[hA]) rfl d8 d7 h2 b2 λbG h3 b3=>?_);refine rA (eS d7 d7 h3 b3 λcI h4 tq=>?_);refine lu (i:=1) cE rfl ?_;refine vi gB h4 tq λdc h5 b5=>?_;refine mc (i:=2) (j:=3) cE d8 d6 d8 rfl rfl λc=>?_;refine dV (mv (pl:=[r]) hv (.inr ⟨_,rfl⟩) hpC (by simp[hC]) rfl d8 d7 h5 b5 λjg h6 b6=>?_);refine dV (eS d7 d7 h6 b6 λgZ h7 _=>aq.mk (hk _ (up _ _ ?_)));rw[e];simpa using h7
def Rf{ps:List Tre}(GN:ps.length<=900)(hp:hZ v L pl (ps++[B])):lE 182 v (.mk 8 x nn m a (ps++[B])) pl:=by
 intro b aj U aS R z vk cE h hb hk;have e:(Tre.mk 8 x nn m a (ps++[B])).pr=[dM].map bo++(eH ep (ps.map Tre.pr)++([dE,gn].map bo++(B.pr++[]))):=by
  rw[Tre.ee];have e1:(ps++[B]).map (λt=>(t.kind,t.pr))=(ps.map λt=>(t.kind,t.pr))++[(B.kind,B.pr)]:=by simp
  rw[e1];generalize hq:ps.map (λt=>(t.kind,t.pr))=q;have e3:ps.map Tre.pr=q.map (·.2):=by rw[<-hq,List.map_map];rfl
  rw[e3];simp[c8,pq]
 rw[e]at hb;have hlen:=hp.len;rw[dx,List.length_singleton]at hlen;obtain⟨sG,tZ⟩:=hp.app;have cD:pl≠[]:=λe=>by rw[e]at hlen;simp at hlen
 obtain⟨p,Cu,gB,_⟩:=tZ.one;have oy:pl[ps.length]?=some p:=by
  have:(pl.drop ps.length)[0]?=some p:=by rw[Cu];rfl
  simpa using this
 refine Kj ?_;dsimp only[Nz,fR,eh,di,ae,bg,ak,ah,ar,dI,cJ,bX,ej,aC];refine iJ h λb4 aK n4 m4 h1 up=>jo n4 m4 h1 (show _=some (co 8) from rfl) ?_;refine ic rfl ?_;rw[cE.len,ad,s0];refine⟨aX d6 d6,?_⟩;have pJ:((pl.length:Int)-1)=((ps.length:Nat):Int):=by omega
 rw[pJ];refine dV (eS d7 d7 h1 hb λaV h2 b2=>?_);refine mc (i:=0) (j:=ps.length) cE cD d6 d6 (gp _ _ _) rfl λc=>?_;rw[eR];refine EC (.inr ⟨_,rfl⟩) sG d6 h2 b2 λbG h3 b3=>?_;refine rA (eS d7 d7 h3 b3 λcI h4 tq=>?_);refine lu cE oy ?_;refine vi gB h4 tq λdc h5 b5=>aq.mk (hk _ (up _ _ ?_));rw[e];simpa using h5
def TA(agG:k=6\/k=7)(hn:ek nn):lE 182 v (.mk k x nn m a []) pl:=by
 intro b aj U aS R z vk cE h hb hk;refine Kj ?_;dsimp only[Nz,fR,eh,di,ae,bg,ak,ah,ar,dI,cJ,bX,ej,aC];refine iJ h λb4 aK n4 m4 h1 up=>jo n4 m4 h1 (show _=some (co k) from rfl) ?_;refine bV d6 (jo n4 m4 h1 (show _=some (co k) from rfl) ?_);have big:(∀y,(Tre.mk k x nn m a []).pr=y->y=[(if k=6 then lq else kh)].map bo++[kL nn])->(aW.zc).wp K aK (λv8 U =>
  (ff (some (.i,9)) v8 (co 6) (AV.str lq) U).wp K U (λ_ U =>
  (ff (some (.i,9)) v8 (co 7) (AV.str kh) U).wp K U (λ_ U =>
  (bu (some 0) (.box b4 0)).wp K U (λv10 U =>
  (bj (some (false,1)) v10 U).wp K U (λv11 U =>
  (fK (some (.i,9)) (some (AV.str [])) v8 v11 false U).wp K U (λv12 U =>
  (ai (some (9,1)) (some [AV.str []]) 1 false [(0,v12)]).wp K U (λsb U =>
  ag K 231 [.box b 0,sb] U (bD (λD5 U =>
  (bu (some 2) (.box b4 0)).wp K U (λA7 U =>
  (bj (some (false,1)) A7 U).wp K U (λzn U =>
  ag K 234 [.box b 0,zn] U (bD (λzo U =>
  aq R (AV.az []) U) (aD R))) (aD R)) (aD R)) (aD R))) (aD R)) (aD R)) (aD R)) (aD R)) (aD R)) (aD R)) (aD R):=by
  intro he;have e:=he _ rfl;have hw:(if k=6 then lq else kh)≠[]:=by split<;>decide
  rw[e]at hb;rw[my];intro mm wi;rw[show NV.at mm .mp=AV.mp mm from rfl];rw[uz (ks':=[co 6]) (vs':=[.str lq]) zb rfl rfl];rw[uz (ks':=[co 6,co 7]) (vs':=[.str lq,.str kh]) jx rfl rfl];have e1:dt aK (((aK.new mm (.mp [] [])).set mm (.mp [co 6] [.str lq])).set mm (.mp [co 6,co 7] [.str lq,.str kh])):=((bK wi).set wi.1).set wi.1;have UU:(((aK.new mm (.mp [] [])).set mm (.mp [co 6] [.str lq])).set mm (.mp [co 6,co 7] [.str lq,.str kh])).mp mm=some ([co 6,co 7],[.str lq,.str kh]):=jx;have h2:=h1.mono e1;generalize ((aK.new mm (.mp [] [])).set mm _).set mm _=aV at *;refine jo n4 m4 h2 (show _=some (co k) from rfl) ?_;have Ua:fK (some (.i,9)) (some (AV.str [])) (.mp mm) (co k) false aV=.val (.str (if k=6 then lq else kh)):=by
   simp only[fK,mM,UU];rcases agG with rfl|rfl<;>rfl
  rw[Ua,ad];refine dV (eS (λu hu=>by rw[lT]at hu;subst hu;exact hw) d8 h2 hb λbG h3 b3=>jo n4 m4 h3 rfl ?_);refine tN hn h3 b3 λcI h4 _=>aq.mk (hk _ (up _ _ ?_));rw[e];simpa [Tre.text,Tre.n,Tre.m] using h4
 have word:∀w:aT,w≠[]->(Tre.mk k x nn m a []).pr=[w].map bo++[]->(ai (some (9,1)) (some [AV.str []]) 1 false [(0,(AV.str w))]).wp K aK (λv53 U=>ag K 231 [.box b 0,v53] U (bD (λzr U=>aq R (AV.az []) U) (aD R))) (aD R):=by
  intro w hw e;rw[e]at hb;refine dV (eS (rest:=[]) (λu hu=>by rw[lT]at hu;subst hu;exact hw) d8 h1 hb λbG h3 _=>aq.mk (hk _ (up _ _ ?_)));rw[e,iM];exact h3
 rw[aN,ad];rcases agG with rfl|rfl
 . simp only[cC,aF,eG,aw,bO];refine j9 (eQ (h1.fr.bq n4 m4) rfl ?_);rw[aN,ao];simp only[av,if_true,ad];refine df (λxR=>?_) λxR=>?_
   . have xR:nn=1:=xR;exact word vR d7 (by rw[Tre.ee];simp[c8,xR])
   . have xR:¬ nn=1:=xR;refine jo n4 m4 h1 (show _=some (co 6) from rfl) ?_;rw[aN,ad];simp only[cC,aF,eG,aw,bO];refine j9 (eQ (h1.fr.bq n4 m4) rfl ?_);rw[aN,ao];simp only[av,if_true,ad];refine df (λEW=>?_) λEW=>?_
     . have EW:nn=2:=EW;exact word sN d7 (by rw[Tre.ee];simp[c8,EW])
     . have EW:¬ nn=2:=EW;exact big λy hy=>by rw[<-hy,Tre.ee];simp[c8,xR,EW]
 . simp only[show decide ((7:Int)=6)=false from rfl,aF,show (false==true)=false from rfl,aw,bB,av,bW,if_false,ad];refine cz (jo n4 m4 h1 (show _=some (co 7) from rfl) ?_);rw[aN,ad];simp only[show decide ((7:Int)=6)=false from rfl,aF,show (false==true)=false from rfl,aw,bB,av,bW,if_false,ad];refine cz (big λy hy=>by rw[<-hy,Tre.ee];simp[c8])
end
variable {o:Nat}
section
variable {b n:Nat}{U aj aK aa:St}{v:AV}{aS l rest:List Tx}{L:List Nd}{t:Tre}{x:aT}{nn m a:Int}{pl:List Nat}
def Fi(k:Int):aT:=if k=2 then eD else if k=3 then jc else eW
def Jh{R:bi}{z:Int}{ks:List Tre}{vk:AV}{rest:List Tx}(Jw:k=2\/k=3\/k=4)(h:PS b v aj aS U)(hb:(aS++([Fi k].map bo++(fp x::rest))).length<=NT)(hk:∀l aa,PS b v aj (aS++l) aa->(Tre.mk k x nn m a ks).pr=l->R (.ret (.az [])) aa)
 (key:∀b4 aK aV,b4≠b->aK.box b4=some (vY (.mk k x nn m a ks) z)->PS b v aK (aS++[Fi k].map bo++[fp x]) aV->(aS++[Fi k].map bo++[fp x]++rest).length<=NT->(∀l aa,PS b v aK l aa->PS b v aj l aa) ->
   (rI 1 (λv0 U =>
     (ai (some (9,1)) (some [AV.str []]) 1 false [(0,(AV.str dF))]).wp K U (λQJ U =>
     ag K 231 [v0,QJ] U (bD (λQK U =>
     aq R (AV.az []) U) (aD R))) (aD R)) λj =>
   (bu (some 0) (.box b4 0)).wp K aV (λrB U =>
   (bj (some (false,1)) rB U).wp K U (λv20 U =>
   (bU .eql (BT.mk false false false none false) true v20 (co 2)).wp K U (λv21 U =>
   cX v21 (
    (ai (some (9,1)) (some [AV.str []]) 1 false [(0,(AV.str ef))]).wp K U (λHJ U =>
    ag K 231 [.box b 0,HJ] U (bD (λv24 U =>
    (bJ (some (3,1)) none vk (bv 0)).wp K U (λA8 U =>
    (bj (some (false,1)) A8 U).wp K U (λv28 U =>
    ag K 123 [.box b 0,v28] U (bD (λsd U =>
    j (.box b 0) U) (aD R))) (aD R)) (aD R)) (aD R))) (aD R)) (
    (dK (some false) vk).wp K U (λv31 U =>
    (bU .sub (BT.mk false false false none false) true v31 (bv 2)).wp K U (λyz U =>
    (ai (some (9,1)) (some [AV.str []]) 1 false [(0,(AV.str dM))]).wp K U (λHK U =>
    ag K 231 [.box b 0,HK] U (bD (λN5 U =>
    (eI false (some (3,1)) vk none (some yz)).wp K U (λZZ U =>
    ag K 233 [.box b 0,ZZ] U (bD (λv40 U =>
    (ai (some (9,1)) (some [AV.str []]) 2 false [(0,(AV.str dE)),(1,(AV.str ef))]).wp K U (λHL U =>
    ag K 231 [.box b 0,HL] U (bD (λzq U =>
    (bJ (some (3,1)) none vk yz).wp K U (λKB U =>
    (bj (some (false,1)) KB U).wp K U (λsM U =>
    ag K 123 [.box b 0,sM] U (bD (λv49 U =>
    (ai (some (9,1)) (some [AV.str []]) 1 false [(0,(AV.str gH))]).wp K U (λv51 U =>
    ag K 231 [.box b 0,v51] U (bD (λCB U =>
    (bU .add (BT.mk false false false none false) true yz (bv 1)).wp K U (λHM U =>
    (bJ (some (3,1)) none vk HM).wp K U (λHN U =>
    (bj (some (false,1)) HN U).wp K U (λN7 U =>
    ag K 123 [.box b 0,N7] U (bD (λv59 U =>
    j (.box b 0) U) (aD R))) (aD R)) (aD R)) (aD R)) (aD R))) (aD R)) (aD R))) (aD R)) (aD R)) (aD R))) (aD R)) (aD R))) (aD R)) (aD R))) (aD R)) (aD R)) (aD R))) (aD R)) (aD R)) (aD R))):ag K 180 [.box b 0,.agg (vY (.mk k x nn m a ks) z),vk] U R:=by
 have hw:Fi k≠[]:=by unfold Fi;split;decide;split<;>decide
 refine X7 ?_;dsimp only[X6,di,ae,bg,ak,vw,aQ,ah,ar,dI,cJ,ej,aC];refine iJ h λb4 aK n4 m4 h1 up=>?_;rw[my];intro mm wi;rw[show NV.at mm .mp=AV.mp mm from rfl];rw[uz (ks':=[co 2]) (vs':=[.str eD]) zb rfl rfl];rw[uz (ks':=[co 2,co 3]) (vs':=[.str eD,.str jc]) jx rfl rfl];rw[uz (ks':=[co 2,co 3,co 4]) (vs':=[.str eD,.str jc,.str eW]) jx rfl rfl];have e1:dt aK ((((aK.new mm (.mp [] [])).set mm (.mp [co 2] [.str eD])).set mm (.mp [co 2,co 3] [.str eD,.str jc])).set mm (.mp [co 2,co 3,co 4] [.str eD,.str jc,.str eW])) :=
  (((bK wi).set wi.1).set wi.1).set wi.1
 have UU:((((aK.new mm (.mp [] [])).set mm (.mp [co 2] [.str eD])).set mm (.mp [co 2,co 3] [.str eD,.str jc])).set mm (.mp [co 2,co 3,co 4] [.str eD,.str jc,.str eW])).mp mm=some ([co 2,co 3,co 4],[.str eD,.str jc,.str eW]):=jx;have h2:=h1.mono e1;generalize (((aK.new mm (.mp [] [])).set mm _).set mm _).set mm _=aV at *;refine jo n4 m4 h2 (show _=some (co k) from rfl) ?_;have Ua:fK (some (.i,9)) (some (AV.str [])) (.mp mm) (co k) false aV=.val (.str (Fi k)):=by
  simp only[fK,mM,UU];rcases Jw with rfl|rfl|rfl<;>rfl
 rw[Ua,ad];refine dV (eS (λu hu=>by rw[lT]at hu;subst hu;exact hw) d8 h2 hb λbG h3 b3=>jo n4 m4 h3 rfl ?_);refine pv h3 b3 λcI h4 tq=>?_;exact key b4 aK cI n4 m4 h4 tq up
def Ou(hp:hZ v L pl [A]):lE 180 v (.mk 2 x nn m a [A]) pl:=by
 intro b aj U aS R z vk cE h hb hk;have e:(Tre.mk 2 x nn m a [A]).pr=[Fi 2].map bo++(fp x::([ef].map bo++(A.pr++([dF].map bo++[])))):=by rw[Tre.ee];simp[c8,Fi]
 rw[e]at hb;obtain⟨p,rfl,g,_⟩:=hp.one;refine Jh (k:=2) (.inl rfl) h hb (λl aa h' e'=>hk aa (by rw[e'];exact h')) λb4 aK aV n4 m4 h2 b2 up=>?_;intro j hj;refine jo n4 m4 h2 (show _=some (co 2) from rfl) (ic rfl ?_);refine dV (eS d7 d7 h2 b2 λbG h3 b3=>?_);refine lu (i:=0) cE rfl ?_;refine vi g h3 b3 λcI h4 tq=>hj _ _ ?_;refine dV (eS d7 d7 h4 tq λdc h5 _=>aq.mk (hk _ (up _ _ ?_)));rw[e];simpa using h5
def aaA{ps:List Tre}{C:Tre}(Mg:k=3\/k=4)(GN:ps.length<=900)(hp:hZ v L pl (ps++[B,C])):lE 180 v (.mk k x nn m a (ps++[B,C])) pl:=by
 intro b aj U aS R z vk cE h hb hk;have e:(Tre.mk k x nn m a (ps++[B,C])).pr=[Fi k].map bo++(fp x::([dM].map bo++(eH ep (ps.map Tre.pr)++([dE,ef].map bo++(B.pr++([gH].map bo++(C.pr++([dF].map bo++[])))))))):=by
  rw[Tre.ee];have e1:(ps++[B,C]).map (λt=>(t.kind,t.pr))=(ps.map λt=>(t.kind,t.pr))++[(B.kind,B.pr),(C.kind,C.pr)]:=by simp
  rw[e1];generalize hq:ps.map (λt=>(t.kind,t.pr))=q;have e3:ps.map Tre.pr=q.map (·.2):=by rw[<-hq,List.map_map];rfl
  rw[e3];have el:(q++[(B.kind,B.pr),(C.kind,C.pr)]).length-2=q.length:=by simp
  have el1:(q++[(B.kind,B.pr),(C.kind,C.pr)]).length-1=q.length+1:=by simp
  rcases Mg with rfl|rfl<;>simp[c8,Fi,el,el1,pq]
 rw[e]at hb;have hlen:=hp.len;rw[dx,jm,List.length_singleton]at hlen;obtain⟨sG,tZ⟩:=hp.app;obtain⟨p,q,Cu,⟨gB,_⟩,gC,_⟩:=tZ.two;have cD:pl≠[]:=λe=>by rw[e]at hlen;simp at hlen
 have hpB:pl[ps.length]?=some p:=by
  have:(pl.drop ps.length)[0]?=some p:=by rw[Cu];rfl
  simpa using this
 have hpC:pl[ps.length+1]?=some q:=by
  have:(pl.drop ps.length)[1]?=some q:=by rw[Cu];rfl
  simpa using this
 refine Jh (k:=k) d6 h hb (λl aa h' e'=>hk aa (by rw[e'];exact h')) λb4 aK aV n4 m4 h2 b2 up=>?_;intro j hj;refine jo n4 m4 h2 (show _=some (co k) from rfl) (bV d6 ?_);rw[cE.len,ad,s0];refine⟨aX d6 d6,?_⟩;have pJ:((pl.length:Int)-2)=((ps.length:Nat):Int):=by omega
 rw[pJ];refine dV (eS d7 d7 h2 b2 λbG h3 b3=>?_);refine mc (i:=0) (j:=ps.length) cE cD d6 d6 (gp _ _ _) rfl λc=>?_;rw[eR];refine EC (.inr ⟨_,rfl⟩) sG d6 h3 b3 λcI h4 tq=>?_;refine rA (eS d7 d7 h4 tq λdc h5 b5=>?_);refine lu cE hpB ?_;refine vi gB h5 b5 λjg h6 b6=>?_;refine dV (eS d7 d7 h6 b6 λgZ h7 b7=>?_);rw[cF];refine⟨aX d6 d6,?_⟩;have yR:((ps.length:Nat):Int)+1=((ps.length+1:Nat):Int):=by omega
 rw[yR];refine lu cE hpC ?_;refine vi gC h7 b7 λpE h8 b8=>hj _ _ ?_;refine dV (eS d7 d7 h8 b8 λrF h9 _=>aq.mk (hk _ (up _ _ ?_)));rw[e];simpa using h9
def aaB(hv:dz v L.length (bM L))(hp:hZ v L pl [A])(hA:cP A.kind):lE 183 v (.mk 19 x nn m a [A]) pl:=by
 intro b aj U aS R z vk cE h hb hk;have e:(Tre.mk 19 x nn m a [A]).pr=[uA].map bo++(dY A.kind 4 A.pr++[]):=by rw[Tre.ee];simp[c8]
 rw[e]at hb;obtain⟨p,rfl,g,xA,Uo,T9⟩:=hp.one;refine Kk ?_;dsimp only[NA,di,ae,bg,ak,uD,oR,aQ,ah,ar,ca,dI,cG,ej,aC,dm];refine iJ h λb4 aK n4 m4 h1 up=>jo n4 m4 h1 (show _=some (co 19) from rfl) (ic rfl ?_);refine dV (eS d7 d7 h1 hb λaV h2 b2=>?_);refine lu (i:=0) cE rfl ?_;refine AX (least:=4) hv Uo T9 hA g h2 b2 λbG h3 _=>aq.mk (hk _ (up _ _ ?_));rw[e];simpa using h3
def sT(lev:Nat):List (List UInt8×Int):=match opsL.find? λp=>p.1==(lev:Int) with|some p=>p.2|none=>[]
def Va{k:Int}(hk:k∈ym):(∀q∈sT (er k),q.2=k->q=(sa k,k))/\(sa k,k)∈sT (er k)/\(sT (er k)).Nodup:=by
 simp only[ym,dy,List.not_mem_nil,or_false]at hk;rcases hk with rfl|rfl|rfl|rfl|rfl|rfl|rfl|rfl<;>decide
def abo(hk:k∈ym)(U:St):fK (some (.i,185)) (some AV.lK) opsV (bv (er k:Nat)) false U=.val (.iK ((sT (er k)).map λp=>(lB p).1) ((sT (er k)).map λp=>(lB p).2)):=by
 simp only[ym,dy,List.not_mem_nil,or_false]at hk;rcases hk with rfl|rfl|rfl|rfl|rfl|rfl|rfl|rfl<;>rfl
def Fr.iter{y:List (AV×AV)×Option (AV×AV)}(h:Fr b U aa)(n:o≠b)(k:U.iter o=some y):aa.iter o=some y:=by
 cases e:U.live o with
 | none=>simp[St.iter,e]at k
 | some x =>
   have:aa.live o=U.live o:=(h o x n e (by intro t ht;subst ht;simp[St.iter,e]at k)).trans e.symm;unfold St.iter at k ⊢;rw[this];exact k
def EN{c:Nat}{y:List AV}{z:List (AV×AV)×Option (AV×AV)}(h:U.box c=some y)(k:U.iter o=some z):c≠o:=by
 rintro rfl;unfold St.box at h;unfold St.iter at k;split at h
 . rename_i e;simp[e]at k
 . rename_i e;simp[e]at k
 . cases h
def O8{c:Nat}{y:Tok}{z:List (AV×AV)×Option (AV×AV)}(h:U.tok c=some y)(k:U.iter o=some z):c≠o:=by
 rintro rfl;unfold St.tok at h;unfold St.iter at k;split at h
 . rename_i e;simp[e]at k
 . cases h
def PS.aeO{z:List (AV×AV)×Option (AV×AV)}{x:Live}(h:PS b v aj aS U)(hn:aj.live o=none)(ho:U.iter o=some z):PS b v aj aS (U.set o x):=by
 obtain⟨⟨vl,h1,h2⟩,h3⟩:=h;refine⟨⟨vl,by rw[bf (EN h1 ho)];exact h1,?_⟩,λc y hc hy ht=>?_⟩
 . refine⟨?_,h2.z,h2.t,xi _⟩;rcases h2.g with g|⟨τ,r1,r2,r3⟩
   . exact .inl g
   . exact .inr ⟨τ,r1,by rw[jk (O8 r2 ho)];exact r2,r3⟩
 . rw[eM,if_neg (λe=>by subst e;rw[hn]at hy;cases hy)];exact h3 c y hc hy ht
def Pv{rs:List Tre}(xZ:k∈ym)(PN:(k=25/\rs=[]/\ek nn)\/(k≠25/\∃B,rs=[B]/\cP B.kind))(hv:dz v L.length (bM L))(hp:hZ v L pl (A::rs))(hA:cP A.kind):lE 183 v (.mk k x nn m a (A::rs)) pl:=by
 intro b aj U aS R z vk cE h hb hk;obtain⟨q1,q2,q3⟩:=Va xZ;have ak2:2<=er k/\er k<=8:=by
  simp only[ym,dy,List.not_mem_nil,or_false]at xZ;rcases xZ with rfl|rfl|rfl|rfl|rfl|rfl|rfl|rfl<;>decide
 have hk8:er k=8↔k=25:=by
  simp only[ym,dy,List.not_mem_nil,or_false]at xZ;rcases xZ with rfl|rfl|rfl|rfl|rfl|rfl|rfl|rfl<;>decide
 have hkT:cP k:=by
  simp only[ym,dy,List.not_mem_nil,or_false]at xZ;rcases xZ with rfl|rfl|rfl|rfl|rfl|rfl|rfl|rfl<;>decide
 have ajJ:k≠19:=by
  simp only[ym,dy,List.not_mem_nil,or_false]at xZ;omega
 have cD:sa k≠[]:=by
  simp only[ym,dy,List.not_mem_nil,or_false]at xZ;rcases xZ with rfl|rfl|rfl|rfl|rfl|rfl|rfl|rfl<;>decide
 obtain⟨tl,ub⟩:∃tl,tl=if k=25 then [kL nn] else match rs with|[B]=>dY B.kind (er k+1) B.pr|_=>[]:=⟨_,rfl⟩
 have e:(Tre.mk k x nn m a (A::rs)).pr=dY A.kind (if er k=5 then 6 else er k) A.pr++([sa k].map bo++tl):=by
  rw[Tre.ee,ub];simp only[ym,dy,List.not_mem_nil,or_false]at xZ;rcases PN with ⟨rfl,rfl,_⟩|⟨RC,B,rfl,_⟩
  . simp[c8,er,sa]
  . rcases xZ with rfl|rfl|rfl|rfl|rfl|rfl|rfl|rfl
    all_goals first
     | exact absurd rfl RC
     | simp[c8,er]
 rw[e]at hb;obtain⟨p0,pr,rfl⟩:∃p r,pl=p::r:=by
  have:=hp.len;cases pl with
  | nil=>simp at this
  | cons p r=>exact⟨p,r,rfl⟩
 obtain⟨gA,xA,Uo,T9⟩:=hp.nd 0 p0 A rfl rfl;refine Kk ?_;dsimp only[NA,di,ae,bg,ak,uD,oR,aQ,ah,ar,ca,dI,cG,ej,aC,dm];refine iJ h λb4 aK n4 m4 h1 up=>jo n4 m4 h1 (show _=some (co k) from rfl) (bV ajJ ?_);refine jo n4 m4 h1 (show _=some (co k) from rfl) ?_;obtain⟨vl,gk⟩:=h1.ld;refine Dq (l:=[]) gk ?_;rw[bh,JW hkT];intro j hj;have body:j (.box b 0) vk (.box b4 0) (bv (er k:Nat)) (bv ((if er k=5 then 6 else er k:Nat):Int)) aK:=by
  refine hj _ _ _ _ _ _ ?_;refine lu (i:=0) cE rfl ?_;refine AX hv Uo T9 hA gA h1 hb λaV h2 b2=>?_;obtain⟨vl2,aa7⟩:=h2.ld;have m4:=h2.fr.bq n4 m4;have up:∀l aa,PS b v aV l aa->PS b v aj l aa:=λl aa h'=>up l aa (h2.app h');have h2:=h2.AS;simp only[bL,ad];refine gw (dN aa7 rfl ?_);rw[abo xZ,ad];have aa5:∀(l:List (List UInt8×Int))fk,yq (some fk) (.iK (l.map λp=>(lB p).1) (l.map λp=>(lB p).2))=.new .it none (.iter (l.map lB) none):=λl fk=>by rw[<-zip_map];rfl
  rw[aa5,my];intro o ho;rw[show NV.at o .it=AV.it o from rfl];have h3:=h2.mono (bK ho (x:=.iter ((sT (er k)).map lB) none));have it3:(aV.new o (.iter ((sT (er k)).map lB) none)).iter o=some ((sT (er k)).map lB,none):=by simp
  have fo:aV.live o=none:=ho.1;generalize kI:aS++dY A.kind (if er k=5 then 6 else er k) A.pr=tk at *
  refine⟨λmm w0 w2 w4 w6 w42 aa=>∃(l2 mB:List (List UInt8×Int))(c2:Option (AV×AV)),w0=.box b 0/\w2=vk/\w4=.box b4 0/\w6=bv (er k:Nat)/\w42=.it o/\aa.iter o=some (l2.map lB,c2)/\mm=l2.length/\(mB++l2).Perm (sT (er k))/\PS b v aV (tk++if (sa k,k)∈mB then [bo (sa k)] else []) aa,
   ⟨_,sT (er k),[],none,rfl,rfl,rfl,rfl,rfl,it3,rfl,d8,by simpa using h3⟩,?_⟩
  rintro mm w0 w2 w4 w6 w42 bG ⟨l2,mB,c2,rfl,rfl,rfl,rfl,rfl,hit,rfl,Ms,h4⟩;refine Iv hit (λhl=>?_) (λp l3 oy=>?_)
  . subst hl;rw[iM]at Ms;rw[if_pos (Ms.mem_iff.2 q2)]at h4;have tq:(tk++[bo (sa k)]++tl).length<=NT:=by simpa using b2
    simp only[bN,eR,eP,ad,aG];rcases PN with ⟨Ao,_,hnn⟩|⟨RC,B,hB,hBT⟩
    . have h8:=hk8.2 Ao;refine ic d6 (jo n4 m4 h4 (show _=some (bv nn) from rfl) ?_);rw[if_pos Ao]at ub;rw[ub]at tq;refine tN hnn h4 tq λdc h5 _=>aq.mk (hk _ (up _ _ ?_));rw[e,ub,<-lG,kI,<-lG];exact h5
    . have h8:er k≠8:=λe=>RC (hk8.1 e);subst hB;rw[if_neg RC]at ub;simp only at ub;refine bV d6 ?_;obtain⟨q0,hq0,gB,xB,hxB,hkB⟩:∃q0,(p0::pr)[1]?=some q0/\s9 v q0 B/\∃x,L[q0]?=some x/\x.kind=B.kind:=by
       have:=hp.len
       match pr,this with
       | [q0],_=>exact⟨q0,rfl,hp.nd 1 q0 B rfl rfl⟩
      refine lu (i:=1) cE hq0 ?_;rw[cF];refine⟨aX d6 d6,?_⟩;have yR:((er k:Nat):Int)+1=((er k+1:Nat):Int):=by omega
      rw[yR];rw[ub]at tq;refine AX (rest:=[]) hv hxB hkB hBT gB h4 (by simpa using tq) λdc h5 _=>aq.mk (hk _ (up _ _ ?_));rw[e,ub,<-lG,kI,<-lG];exact h5
  . have he:o9 (.it o) (bG.set o (.iter (l3.map lB) (some (lB p))))=.val (.az [(lB p).1,(lB p).2]):=by simp[o9]
    have h5:=h4.aeO (x:=.iter (l3.map lB) (some (lB p))) fo hit;have it5:(bG.set o (.iter (l3.map lB) (some (lB p)))).iter o=some (l3.map lB,some (lB p)):=by simp
    have ajO:o≠b:=λe=>by
     subst e;obtain⟨yA,aj1⟩:=h4.ld;exact EN aj1 hit rfl
    have KY:(mB++[p]++l3).Perm (sT (er k)):=by
     rw[lG];exact (List.Perm.append_left mB oy).trans Ms
    have hlen:l3.length<l2.length:=by rw[<-oy.length_eq];simp
    have hnd:(mB++[p]++l3).Nodup:=KY.nodup_iff.2 q3;have ajT:p∈sT (er k):=KY.mem_iff.1 d8;simp only[bN,eR,eP,ad,aL];rw[he];simp only[bN,eR,eP,ad,List.drop_succ_cons];refine jo n4 m4 h5 (show _=some (co k) from rfl) ?_;rw[show (lB p).2=co p.2 from rfl,show (lB p).1=.str p.1 from rfl,aN,ad];refine df (λwj=>?_) λwj=>?_
    . have Cu:=q1 p ajT wj;have Mp:(sa k,k)∉mB:=λhm=>by
       rw[<-Cu]at hm;rw[List.nodup_append,List.nodup_append]at hnd;exact hnd.1.2.2 p hm p d8 rfl
      rw[if_neg Mp,iM]at h5;have sG:p.1=sa k:=by rw[Cu]
      rw[sG];refine dV (eS (ws:=[sa k]) (rest:=tl) (λu hu=>by rw[lT]at hu;subst hu;exact cD) d8 h5.AS (by simpa using b2) λjg h6 _=>?_);refine⟨l3.length,hlen,l3,mB++[p],some (lB p),rfl,rfl,rfl,rfl,rfl,h6.fr.iter ajO it5,rfl,KY,?_⟩;rw[if_pos (by rw[<-Cu];simp)];exact h5.app h6
    . refine⟨l3.length,hlen,l3,mB++[p],some (lB p),rfl,rfl,rfl,rfl,rfl,it5,rfl,KY,?_⟩;have:((sa k,k)∈mB++[p])↔(sa k,k)∈mB:=by
       simp only[gV,lT];exact⟨λh=>h.resolve_right λe=>wj (by rw[<-e]),.inl⟩
      have e3:(if (sa k,k)∈mB++[p] then [bo (sa k)] else [])=if (sa k,k)∈mB then [bo (sa k)] else []:=by
       by_cases hm:(sa k,k)∈mB
       . rw[if_pos hm,if_pos (this.2 hm)]
       . rw[if_neg hm,if_neg λh=>hm (this.1 h)]
      rw[e3];exact h5
 refine ib (df (λh5=>?_) λh5=>?_)
 . have h5':er k=5:=by omega
   rw[cF];refine⟨aX d6 d6,?_⟩;rw[if_pos h5']at body;have:((er k:Nat):Int)+1=((6:Nat):Int):=by omega
   rw[this];exact body
 . have h5':¬ er k=5:=by omega
   rw[if_neg h5']at body;exact body
end
def Fq{v:AV}{l:List Nd}{n:Nat}{en:Int}{bn be bt:Nat}{U:St}{B:AV->Qr->St->Prop}{Kn:St->Prop}{Ke:Nat->St->Prop}{Kr:St->Prop}{Kp:am}(I:Nat->List Nat->St->Prop)(J:Nat->St->Prop)
 (hv:dz v l.length (bM l)) (hn:n<l.length) (hlen:l.length<=100000) (hen:en<=l.length)
 (FL:∀o ks U,I o ks U->U.box bn=some [bv (n:Nat)]/\U.box be=some [bv en]/\U.box bt=some [v])
 (G0:∀o ks U L L',I o ks U->U.loop o=some L->I o ks (U.set o (.loop L')))
 (hJ:∀o U L L',J o U->U.loop o=some L->J o (U.set o (.loop L')))
 (body:∀(ks:List Nat)(ir:Nat)(x:Nd)(aK:St)(o:Nat)(L1:iu)(q:Qr),I o ks aK->l[ir]?=some x->(ir:Int)<en->0<x.size->n<ir->ks.length<l.length->(∃r,ix l en l.length (n+1)=ks++ir::r)->aK.loop o=some L1 ->
   (∀aV,I o (ks++[ir]) aV->x.size<=100000->aV.loop o=some L1->q.n aV)->(∀aV,J o aV->aV.loop o=some L1->q.r aV)->B (bv (ir:Nat)) q aK)
 (fin:∀ks aK o L,ks=ix l en l.length (n+1)->I o ks aK->aK.loop o=some L->Kn (aK.del o))
 (aaH:∀aK o L,J o aK->aK.loop o=some L->Kr (aK.del o))
 (h0:∀o L,U.eO o->I o [] (U.new o (.loop L))):AR K 1 (.func (.func 155) [] [.box bn 0,.box be 0,.box bt 0]) U (λv q U=>q.Qe (λU=>B v q U) U) Kn Ke Kr Kp:=by
 refine⟨by kernel_rfl,λo L ho L6 TQ Y=>?_⟩;have I1:=h0 o L ho;have L8:=zL (U:=U) (b:=o) (L:=L);generalize U.new o (.loop L)=aK at *;refine Ki ?_;dsimp only[Ny,fR,eh,yG,se,cU,bg,ak,gX,aQ,ah,ar,ca,cw,eN,iH,bX,fW,aC];rw[gJ (FL _ _ _ I1).1,eR,bI,cF];refine⟨aX d6 d6,?_⟩;refine⟨λm v0 v2 v3 v5 aa=>∃ks f p,m=l.length-p/\v0=.uK o/\v2=.box be 0/\v3=.box bt 0/\v5=bv (p:Nat)/\n<p/\p<=300000/\l.length-p<=f/\ks++ix l en f p=ix l en l.length (n+1)/\I o ks aa/\∃L1,aa.loop o=some L1/\L1.st .ready none=L/\L1.state=.ready/\L1.iL=none,
  ⟨_,[],l.length,n+1,rfl,rfl,rfl,rfl,d8,d6,d6,d6,rfl,I1,L,L8,by cases L;simp_all [iu.st],L6,TQ⟩,?_⟩
 clear I1 L8;rintro m v0 v2 v3 v5 aV ⟨ks,f,p,rfl,rfl,rfl,rfl,rfl,hnp,hp3,hf,ju,I2,L1,lz,ji,Fb,Fa⟩;obtain⟨k1,k2,k3⟩:=FL _ _ _ I2;rw[gJ k2,eR,bI];simp only[aY,ad,aF,aw];have stop:ix l en f p=[]->aq (Np o Kn Ke Kr Kp) (.az []) aV:=λh=>by
  rw[h,iM]at ju;refine aq.mk ⟨L1,lz,by rw[Fb];simp,?_⟩;rw[Fa];exact fin ks aV o L1 ju I2 lz
 by_cases aA:(p:Int)<en
 . have oy:p<l.length:=by omega
   obtain⟨x,hx⟩:∃x,l[p]?=some x:=⟨l[p],by simp[oy]⟩;cases f with
   | zero=>omega
   | succ f =>
   have Aw:ix l en (f+1) p=if 0<x.size then p::ix l en f (p+x.size.toNat) else []:=by
    simp only[ix,hx,aA,true_and]
   simp only[aA,cC,eG,bO,ao,aP,cK,nM k3,eR,gg,iI];refine F1 hv hx λr=>?_;simp only[dX,ao,iI,dv,ke,List.drop,oA,gg,dq,av,if_true,ad,bp];refine⟨λhs=>?_,λhs=>?_⟩
   . rw[if_pos hs]at Aw;simp only[kQ,Cf];refine Y _ _ _ L1 rfl lz ji ?_;refine⟨L1,lz,Fb,?_⟩;have I3:=G0 o _ _ L1 { L1 with state:=.busy } I2 lz
     have kH:ks.length<l.length:=by
      have:=BE l en l.length (n+1);rw[<-ju,Aw]at this;simp at this;omega
     refine body ks p x _ o { L1 with state:=.busy } _ I3 hx aA hs hnp kH ⟨_,by rw[<-ju,Aw]⟩ iD (λbG I4 ua wO=>?_) λbG hJ3 wO=>?_
     . refine⟨_,wO,?_⟩;have I5:=G0 o _ _ _ { L1 with state:=.ready,iL:=none } I4 wO
       obtain⟨j1,j2,j3⟩:=FL _ _ _ I5;simp only[bh,db,ad,cL,aG,aP,cK];rw[gJ j3,eR,bI];refine IY hv hx λr=>?_;simp only[dX,ad,dv,ke,List.drop,ln,bI,cF];refine⟨aX d6 d6,_,?_,ks++[p],f,p+x.size.toNat,rfl,rfl,rfl,rfl,?_,d6,d6,d6,?_,I5,_,iD,by rw[<-ji];rfl,rfl,rfl⟩
       . omega
       . congr 1;omega
       . rw[<-ju,Aw];simp
     . refine⟨_,wO,?_⟩;simp only[bh,db,ad,dS,aL];refine aq.mk ⟨_,iD,d8,?_⟩;exact aaH _ o _ (hJ o _ _ _ hJ3 wO) iD
   . rw[if_neg hs]at Aw;exact stop Aw
 . simp only[aA,cZ,show (false==true)=false from rfl,bB,av,bW,if_false,ad,aG];refine stop ?_;cases f with
   | zero=>rfl
   | succ f =>
     simp only[ix];split
     . rw[if_neg (λh=>aA h.1)]
     . rfl
def LO:∀{ss:List nq}{ks:List Int},dB ks ss->∀k∈ks,∃s∈ss,s.c.is k
 | [],ks,h,k,hk=>by
   have:ks.isEmpty:=h;rw[List.isEmpty_iff]at this;rw[this]at hk;cases hk
 | s::ss,ks,h,k,hk=>by
   rw[dB]at h;split at h
   . cases h
   . rename_i hm;have td:(ks.take (min (ks.length-(ss.map (·.least)).sum) s.ph)).takeWhile s.c.is <+: ks:=(vb _).trans (List.take_prefix _ _);obtain⟨r,hr⟩:=td;generalize hq:(ks.take (min (ks.length-(ss.map (·.least)).sum) s.ph)).takeWhile s.c.is=q at *;have cg:∀k∈q,s.c.is k:=λk hk=>by
      rw[<-hq]at hk;have key:∀l:List Int,k∈l.takeWhile s.c.is->s.c.is k:=λl=>by
       induction l with
       | nil=>simp
       | cons c l ih =>
         simp only[om];split
         . rename_i hc;intro h;rcases dy.1 h with rfl|h
           . exact hc
           . exact ih h
         . simp
      exact key _ hk
     rw[<-hr]at h hk;rw[List.drop_left]at h;rcases gV.1 hk with hk|hk
     . exact⟨s,d8,cg k hk⟩
     . obtain⟨s',h1,h2⟩:=LO h k hk;exact⟨s',by simp[h1],h2⟩
def abd{c:Prop}[Decidable c]{a f:iQ}{B:Option iQ}{G:Prop}(h:(if c then some a else B)=some f)(h1:a=f->G)(h2:B=some f->G):G:=by
 split at h
 . exact h1 (Option.some.inj h)
 . exact h2 h
def aaM{f:iQ}(h:bS k=some f):∀s∈f.kids,s.c.is 1=false:=by
 unfold bS at h
 repeat' (refine abd h (λh=>?_) (λh=>?_))
 all_goals first
  | (subst h;simp[ku.is,jI,fJ,jH,cP,lh];done)
  | cases h
def AJ{t:Tre}(h:t.ok):∀c∈t.kids,c.kind≠1/\c.ok:=by
 cases t with
 | mk k x n m a ks =>
   obtain⟨f,hf,_,h2,h3⟩:=Tre.BN h;intro c hc;refine⟨λe=>?_,h3 c hc⟩;obtain⟨s,hs,hk⟩:=LO h2 c.kind (List.mem_map_of_mem hc);rw[e,aaM hf s hs]at hk;cases hk
def uU(k:Int):FuncId:=if jI k=true then 180 else if fJ k=true then 182 else if 17<=k/\k<=25 then 183 else if 9<=k/\k<=16 then 184 else if cP k=true then 186 else 187
section
variable {b n:Nat}{U aj aK aa:St}{v:AV}{aS l rest:List Tx}{L:List Nd}{t:Tre}
def PS.kg{z:iu}{aV:St}(h:PS b v aj aS U)(hn:aj.live o=none)(ho:U.loop o=some z)(hs:∀c,c≠o->aV.live c=U.live c):PS b v aj aS aV:=by
 obtain⟨⟨vl,h1,h2⟩,h3⟩:=h;refine⟨⟨vl,by rw[eE (hs _ (cQ h1 ho))];exact h1,?_⟩,λc y hc hy ht=>?_⟩
 . refine⟨?_,h2.z,h2.t,xi _⟩;rcases h2.g with g|⟨τ,r1,r2,r3⟩
   . exact .inl g
   . exact .inr ⟨τ,r1,by rw[nA (hs _ (vQ r2 ho))];exact r2,r3⟩
 . rw[hs c λe=>by subst e;rw[hn]at hy;cases hy];exact h3 c y hc hy ht
def PS.other{vk:AV}{e sz m:Nat}{lk:List AV}(h:PS b v aj aS U)(he:e≠51)(g:gi aj U vk e sz m lk)(k:∀c x,(∀n l,vk≠.vec n (.own c) l)->U.live c=some x->aa.live c=some x):PS b v aj aS aa:=by
 obtain⟨⟨vl,h1,h2⟩,h3⟩:=h;refine⟨⟨vl,(ly g.g k).1 h1,?_⟩,λc y hc hy ht=>?_⟩
 . refine⟨?_,h2.z,h2.t,xi _⟩;rcases h2.g with g'|⟨τ,r1,r2,r3⟩
   . exact .inl g'
   . refine .inr ⟨τ,r1,?_,r3⟩;cases e':U.live τ with
     | none=>simp[St.tok,e']at r2
     | some y =>
       have:=k τ y (λn' l' hv=>by
        rcases g.g with ⟨_,_,g⟩|⟨wZ,g,ht,_⟩
        . rw[g]at hv;cases hv
        . rw[g]at hv;cases hv;rw[r2]at ht;simp only[kP,Tok.mk.injEq]at ht;exact he ht.2.1.symm) e'
       rw[nA (this.trans e'.symm)];exact r2
 . refine k c y (λn' l' hv=>?_) (h3 c y hc hy ht);rw[g.t _ _ _ hv]at hy;cases hy
end
section
variable {b n:Nat}{U aj aK aa:St}{v:AV}{aS l rest:List Tx}{L:List Nd}{t:Tre}
def PS.c7{c:Nat}{y z:List AV}(h:PS b v aj aS U)(nc:c≠b)(hn:aj.live c=none)(hc:U.box c=some y):PS b v aj aS (U.set c (.box z)):=by
 obtain⟨⟨vl,h1,h2⟩,h3⟩:=h;refine⟨⟨vl,by rw[bf nc.symm];exact h1,?_⟩,λc' y' Cp Df ht=>?_⟩
 . refine⟨?_,h2.z,h2.t,xi _⟩;rcases h2.g with g|⟨τ,r1,r2,r3⟩
   . exact .inl g
   . exact .inr ⟨τ,r1,by rw[jk (fY hc r2).symm];exact r2,r3⟩
 . rw[eM,if_neg λe=>by subst e;rw[hn]at Df;cases Df];exact h3 c' y' Cp Df ht
def aeX{s:Tre}{pl:List Nat}(hv:Sl v L)(hL:L.length<=1000)(hz:∀(i:Nat)(y:Nd),L[i]?=some y->y.size<=100000)(hs:dP L n s)(oy:pl=bH (n+1) s.kids)(hf:lE (uU s.kind) v s pl):s9 v n s:=by
 intro b aj U aS R h hb hk;obtain⟨x,hx,p9,hxs,Up,hxn,hxm,PX⟩:=hs.oS;have hle:=hs.le;have tc:=s.eC;have agv:dv x=vY s x.size:=by unfold dv vY;rw[p9,Up,hxn,hxm,PX]
 have E6:ix L ((n:Int)+x.size) L.length (n+1)=pl:=by
  rw[oy,hxs];exact BF hs
 refine Wt ?_;dsimp only[Ws,fR,eh,ae,bg,ak,Ch,aQ,ah,Ec,Ed,dj,ar,cw,eN,iH,cG,bX,ej,cn,aC,dr,dA];obtain⟨vl,gk⟩:=h.ld;simp only[bL,ad];refine gw (gw (gw (dN gk rfl ?_)));refine IY hv.s hx λr=>?_;rw[tP];refine⟨by simp[dv],?_⟩;rw[show (dv x++r).take 6=dv x from rfl,dh];intro b4 kG;have m4:(U.new b4 (.box [co 0,AV.str [],bv 0,bv 0,bv 0,bv 0])).box b4=some [co 0,AV.str [],bv 0,bv 0,bv 0,bv 0]:=aH;rw[cV m4];refine⟨⟨rfl,rfl,d8⟩,?_⟩;rw[show ax [co 0,AV.str [],bv 0,bv 0,bv 0,bv 0] 0 (al (.agg (dv x)))=dv x from rfl];have e4:dt U ((U.new b4 (.box [co 0,AV.str [],bv 0,bv 0,bv 0,bv 0])).set b4 (.box (dv x))):=(bK kG).set kG.1;have m4:((U.new b4 (.box [co 0,AV.str [],bv 0,bv 0,bv 0,bv 0])).set b4 (.box (dv x))).box b4=some (dv x):=aZ;have h4:=h.mono e4;have gk:=e4.bq gk;have n4:b4≠b:=λe=>by subst e;exact absurd kG.1 (cN (by assumption:U.box b4=some [v,vl,opsV]))
 generalize (U.new b4 _).set b4 _=aK at *;have up:∀l aa,PS b v aK l aa->PS b v aj l aa:=λl aa h'=>h4.app h';have h4:=h4.AS;rw[dh];intro b5 kZ;have m5:(aK.new b5 (.box [AV.af])).box b5=some [.af]:=aH;have Fk:=kZ.cA m4;have n5:b5≠b:=(kZ.cA gk).symm;have e5:=bK kZ (x:=.box [AV.af]);have h5:=h4.mono e5;have gk:=e5.bq gk;have m4:=e5.bq m4;generalize aK.new b5 (.box [AV.af])=aV at *;refine gw ?_;rw[mK gk];refine⟨d8,?_⟩;rw[show ([v,vl,opsV].drop 0).take 1=[v] from rfl];refine BI (n:=n) hv.s hx (aX d6 d6) λbn be bt bG d1 d2 d3 f1 f2 f3 q1 q2 q3 e3=>?_;rw[bh];have h6:=h5.mono e3;have n4n:b4≠bn:=λe=>cN m4 (e▸f1);have n4e:b4≠be:=λe=>cN m4 (e▸f2);have n4t:b4≠bt:=λe=>cN m4 (e▸f3);have n5n:b5≠bn:=λe=>cN m5 (e▸f1);have n5e:b5≠be:=λe=>cN m5 (e▸f2);have n5t:b5≠bt:=λe=>cN m5 (e▸f3);have m4:=e3.bq m4;have m5:=e3.bq m5;have fin:∀(gZ:St)(vk:AV),gZ.box b4=some (dv x)->gZ.box b5=some [vk]->dz vk pl.length (dW pl)->PS b v aK aS gZ ->
  (bu (some 0) (.box b4 0)).wp K gZ (λyz U =>
  (bj (some (false,1)) yz U).wp K U (λzp U =>
  ag K 179 [zp] U (bD (λHK U =>
  cX HK (
   (bj (some (true,6)) (.box b4 0) U).wp K U (λFw U =>
   (bj (some (false,1)) (.box b5 0) U).wp K U (λv37 U =>
   ag K 180 [.box b 0,Fw,v37] U (bD (λKA U =>
   aq R (AV.az []) U) (aD R))) (aD R)) (aD R)) (
   (bu (some 0) (.box b4 0)).wp K U (λv40 U =>
   (bj (some (false,1)) v40 U).wp K U (λZ0 U =>
   ag K 181 [Z0] U (bD (λHL U =>
   cX HL (
    (bj (some (true,6)) (.box b4 0) U).wp K U (λZ1 U =>
    (bj (some (false,1)) (.box b5 0) U).wp K U (λZ2 U =>
    ag K 182 [.box b 0,Z1,Z2] U (bD (λv46 U =>
    aq R (AV.az []) U) (aD R))) (aD R)) (aD R)) (
    (bu (some 0) (.box b4 0)).wp K U (λsM U =>
    (bj (some (false,1)) sM U).wp K U (λv49 U =>
    (bU .geq (BT.mk false false false none false) true v49 (co 17)).wp K U (λux U =>
    aI K (cq ux true) (bu (some 0) (.box b4 0)) (λCB =>
    aI K (cq ux true) (bj (some (false,1)) CB U) (λv53 =>
    aI K (cq ux true) (bU .leq (BT.mk false false false none false) true v53 (co 25)) (λzr =>
    (fP ux zr (AV.bool false)).wp K U (λA9 U =>
    cX A9 (
     (bj (some (true,6)) (.box b4 0) U).wp K U (λHN U =>
     (bj (some (false,1)) (.box b5 0) U).wp K U (λN7 U =>
     ag K 183 [.box b 0,HN,N7] U (bD (λv59 U =>
     aq R (AV.az []) U) (aD R))) (aD R)) (aD R)) (
     (bu (some 0) (.box b4 0)).wp K U (λQJ U =>
     (bj (some (false,1)) QJ U).wp K U (λQK U =>
     (bU .geq (BT.mk false false false none false) true QK (co 9)).wp K U (λQL U =>
     aI K (cq QL true) (bu (some 0) (.box b4 0)) (λv65 =>
     aI K (cq QL true) (bj (some (false,1)) v65 U) (λv66 =>
     aI K (cq QL true) (bU .leq (BT.mk false false false none false) true v66 (co 16)) (λZ3 =>
     (fP QL Z3 (AV.bool false)).wp K U (λZ4 U =>
     cX Z4 (
      (bj (some (true,6)) (.box b4 0) U).wp K U (λv70 U =>
      (bj (some (false,1)) (.box b5 0) U).wp K U (λN8 U =>
      ag K 184 [.box b 0,v70,N8] U (bD (λv72 U =>
      aq R (AV.az []) U) (aD R))) (aD R)) (aD R)) (
      (bu (some 0) (.box b4 0)).wp K U (λN9 U =>
      (bj (some (false,1)) N9 U).wp K U (λv75 U =>
      ag K 185 [v75] U (bD (λv76 U =>
      cX v76 (
       (bj (some (true,6)) (.box b4 0) U).wp K U (λv78 U =>
       (bj (some (false,1)) (.box b5 0) U).wp K U (λv79 U =>
       ag K 186 [.box b 0,v78,v79] U (bD (λv80 U =>
       aq R (AV.az []) U) (aD R))) (aD R)) (aD R)) (
       (bj (some (true,6)) (.box b4 0) U).wp K U (λv28 U =>
       (bj (some (false,1)) (.box b5 0) U).wp K U (λsd U =>
       ag K 187 [.box b 0,v28,sd] U (bD (λv30 U =>
       aq R (AV.az []) U) (aD R))) (aD R)) (aD R))) (aD R))) (aD R)) (aD R))) (aD R))))) (aD R)) (aD R)) (aD R))) (aD R))))) (aD R)) (aD R)) (aD R))) (aD R))) (aD R)) (aD R))) (aD R))) (aD R)) (aD R):=by
  intro gZ vk m4 m5 cE h7;have call:∀f,uU s.kind=f->(bj (some (true,6)) (.box b4 0) gZ).wp K gZ (λFw U=>(bj (some (false,1)) (.box b5 0) U).wp K U (λv37 U=>ag K f [.box b 0,Fw,v37] U (bD (λKA U=>aq R (AV.az []) U) (aD R))) (aD R)) (aD R):=by
   intro f TX;rw[mK m4];refine⟨by simp[dv],?_⟩;rw[show ((dv x).drop 0).take 6=dv x from rfl];refine dN m5 rfl ?_;rw[agv,<-TX];exact hf _ _ _ _ _ _ _ cE h7 hb λaa h'=>aq.mk (hk aa (up _ _ h'))
  have UI:∀{K':am}{Kp:am},K' (co s.kind) gZ->(bu (some 0) (.box b4 0)).wp K gZ (λyz U=>(bj (some (false,1)) yz U).wp K U K' Kp) Kp:=by
   intro K' Kp hK;refine gw (dN m4 (show _=co x.kind::_ from rfl) ?_);rw[p9];exact hK
  refine UI ((Hr s.kind).go ?_);cases c1:jI s.kind with
  | true=>exact cO (call 180 (by unfold uU;rw[if_pos c1]))
  | false =>
  refine cz (UI ((Ht s.kind).go ?_));cases c2:fJ s.kind with
  | true=>exact cO (call 182 (by unfold uU;rw[if_neg (by simp[c1]),if_pos c2]))
  | false =>
  refine cz (UI ?_);have Js:uU s.kind=if 17<=s.kind/\s.kind<=25 then 183 else if 9<=s.kind/\s.kind<=16 then 184 else if cP s.kind=true then 186 else 187:=by
   unfold uU;rw[if_neg (by simp[c1]),if_neg (by simp[c2])]
  have rng:∀(lo hi:Int)(A B:am),(lo<=s.kind/\s.kind<=hi->A (.bool true) gZ)->(¬ (lo<=s.kind/\s.kind<=hi)->B (.bool false) gZ) ->
   (bU .geq (BT.mk false false false none false) true (co s.kind) (co lo)).wp K gZ (λux U =>
   aI K (cq ux true) (bu (some 0) (.box b4 0)) (λCB =>
   aI K (cq ux true) (bj (some (false,1)) CB U) (λv53 =>
   aI K (cq ux true) (bU .leq (BT.mk false false false none false) true v53 (co hi)) (λzr =>
   (fP ux zr (AV.bool false)).wp K U (λA9 U=>cX A9 (A A9 U) (B A9 U)) (aD R))))) (aD R):=by
   intro lo hi A B hA hB;rw[eX,ad]
   by_cases h1:lo<=s.kind
   . simp only[h1,cC,aF,eG,aw,bO];refine j9 (eQ m4 (show _=co x.kind::_ from rfl) ?_);rw[p9,iC,ao];simp only[av,if_true,ad]
     by_cases h2:s.kind<=hi
     . simp only[h2,cC];exact cO (hA ⟨h1,h2⟩)
     . simp only[h2,cZ];exact cz (hB λh3=>h2 h3.2)
   . simp only[h1,cZ,aF,show (false==true)=false from rfl,aw,bB,av,bW,if_false,ad];exact cz (hB λh3=>h1 h3.1)
  refine rng 17 25 _ _ (λh1=>call 183 (by rw[Js,if_pos h1])) λh1=>UI (rng 9 16 _ _ (λh2=>call 184 (by rw[Js,if_neg h1,if_pos h2])) λh2=>UI ((BX s.kind).go ?_));cases c3:cP s.kind with
  | true=>exact cO (call 186 (by rw[Js,if_neg h1,if_neg h2,if_pos c3]))
  | false=>exact cz (call 187 (by rw[Js,if_neg h1,if_neg h2,if_neg (by simp[c3])]))
 refine Fq (n:=n) (en:=(n:Int)+x.size)
  (λo ks aa=>(aa.box bn=some [bv (n:Nat)]/\aa.box be=some [bv ((n:Int)+x.size)]/\aa.box bt=some [v])/\aa.box b4=some (dv x)/\(∃vk,aa.box b5=some [vk]/\gi aK aa vk 3 1 ks.length (dW ks))/\aK.live o=none/\PS b v aK aS aa)
  (λ_ _=>False) hv.s d6 d6 d6
  (λo ks aa hI=>hI.1) (λo ks aa L0 L' hI ho=>?_) (λo aa L0 L' hJ ho=>hJ) (λks ir y aa o L1 q hI hy aA ais hnk kH td lz Ug hrx=>?_) (λks aa o L0 ju hI Jo=>?_) (λaa o L0 hJ Jo=>hJ.elim) (λo L0 ho=>?_)
 . obtain⟨⟨i1,i2,i3⟩,i4,⟨vk,i5,i6⟩,i7,i8⟩:=hI;have kb:∀{c y},aa.box c=some y->(aa.set o (.loop L')).box c=some y:=λh=>by rw[bf (cQ h ho)];exact h
   exact⟨⟨kb i1,kb i2,kb i3⟩,kb i4,⟨vk,kb i5,i6.loop ho (i6.ex.set i7)⟩,i7,i8.kg i7 ho λc hc=>by rw[eM,if_neg hc]⟩
 . obtain⟨⟨i1,i2,i3⟩,i4,⟨vk,i5,i6⟩,i7,i8⟩:=hI;refine dN i5 rfl ?_;refine EI rfl rfl ?_;refine yC i6 (m:=1) (l2:=[bv (ir:Nat)]) rfl rfl d6 d6 λdc v' g2 k2=>?_;have kb:∀{c y},aa.box c=some y->dc.box c=some y:=λh=>(ly i6.g k2).1 h;have kl:∀{c L},aa.loop c=some L->dc.loop c=some L:=λh=>(ly i6.g k2).2 h;have i8:=i8.other d7 i6 k2;have p8:v'.dC/\al v'=[v']:=by
    rcases g2.g with ⟨h0,_,_⟩|⟨τ,r1,_,_⟩
    . omega
    . rw[r1];exact⟨rfl,rfl⟩
   have i5:=kb i5;rw[cV i5];refine⟨⟨p8.1,by rw[p8.2];rfl,d8⟩,?_⟩;have i8':PS b v aK aS (dc.set b5 (.box (ax [vk] 0 (al v')))):=i8.c7 n5 kZ.1 i5;refine Ug _ ⟨⟨?_,?_,?_⟩,?_,⟨v',?_,?_⟩,i7,i8'⟩ ?_ ?_
   . rw[bf n5n.symm];exact kb i1
   . rw[bf n5e.symm];exact kb i2
   . rw[bf n5t.symm];exact kb i3
   . rw[bf Fk];exact kb i4
   . rw[aZ,p8.2];rfl
   . have:gi aK (dc.set b5 (.box (ax [vk] 0 (al v')))) v' 3 1 (ks.length+1) (dW ks++[bv (ir:Nat)]):=by
      refine⟨?_,g2.z,g2.t,g2.ex.set kZ.1⟩;rcases g2.g with g|⟨τ,r1,r2,r3⟩
      . exact .inl g
      . exact .inr ⟨τ,r1,by rw[jk (fY i5 r2).symm];exact r2,r3⟩
     simpa [dW] using this
   . exact hz _ _ hy
   . rw[iX];exact kl lz;rw[eM,if_neg (cQ i5 (kl lz)).symm]
 . obtain⟨⟨i1,i2,i3⟩,i4,⟨vk,i5,i6⟩,i7,i8⟩:=hI;have kb:∀{c y},aa.box c=some y->(aa.del o).box c=some y:=λh=>by rw[jF (cQ h Jo)];exact h
   have i8:=i8.kg (aV:=aa.del o) i7 Jo λc hc=>by rw[jv,if_neg hc]
   rw[E6]at ju;subst ju;exact fin _ vk (kb i4) (kb i5) i6.sl i8
 . have e:=bK ho (x:=.loop L0);exact⟨⟨e.bq q1,e.bq q2,e.bq q3⟩,e.bq m4,⟨.af,e.bq m5,gi.nil ((e5.trans e3).trans e)⟩,(e5.trans e3).fresh ho.1,h6.mono e⟩
end
section
variable {v:AV}{L:List Nd}
def agj{s:Tre}{pl:List Nat}(hv:dz v L.length (bM L))(h9:s.flat.length<=900)(ho:s.ok)(h1:s.kind≠1)(hp:hZ v L pl s.kids):lE (uU s.kind) v s pl:=by
 cases s with
 | mk k x nn m a ks =>
   obtain⟨fo,gY,g1,g2,g3⟩:=Tre.BN ho;obtain⟨f1,f2,f3,f4,f5,f6⟩:=qW g1;have hlen:(Tre.cH ks).length+1=(Tre.mk k x nn m a ks).flat.length:=by rw[Tre.gQ];simp
   have kH:ks.length<=900:=by have:=Tre.pA ks;omega
   have hp:hZ v L pl ks:=hp;have ox:k≠1:=h1;have hk:(k=2\/(k=3\/k=4))\/k=5\/(k=6\/k=7)\/k=8\/k=9\/k=10\/(k=11\/k=15)\/k=12\/k=13\/k=14\/k=16\/(k∈ym/\k≠25)\/k=19\/k=25\/k=26\/(k=27\/k=28\/k=29\/k=30)\/k=31\/k=32\/k=33\/k=34\/k=35\/k=36\/k=37:=by
    by_cases hr:2<=k/\k<=37
    . simp only[ym,dy,List.not_mem_nil,or_false];omega
    . exfalso;unfold bS at gY;rw[if_neg d6,if_neg d6,if_neg d6,if_neg d6,if_neg d6,if_neg d6,if_neg d6,if_neg d6,if_neg d6,if_neg d6,if_neg d6,if_neg d6,if_neg d6,if_neg d6,if_neg d6,if_neg d6,if_neg d6,if_neg d6,if_neg d6,if_neg d6,if_neg d6]at gY;cases gY
   have nil:dB (ks.map Tre.kind) []=true->ks=[]:=λh=>by
    have:(ks.map Tre.kind).isEmpty:=h;simpa using this
   have term:∀{c:Tre},ku.term.is c.kind->cP c.kind:=λh=>h;rcases hk with (rfl|hk)|rfl|hk|rfl|rfl|rfl|hk|rfl|rfl|rfl|rfl|⟨hk,Ao⟩|rfl|rfl|rfl|hk|rfl|rfl|rfl|rfl|rfl|rfl|rfl
   . obtain rfl:(⟨true,false,false,[⟨.type,1,1⟩]⟩:iQ)=fo:=by simpa [bS] using gY
     obtain⟨A,rfl,_⟩:=oW g2;exact Ou hp
   . have nv:fo=⟨true,false,false,[⟨.kind 5,0,900⟩,⟨.base,1,1⟩,⟨.term,1,1⟩]⟩:=by rcases hk with rfl|rfl<;>simpa [bS] using gY.symm
     subst nv;obtain⟨ps,B,C,rfl,_,_,_,_⟩:=BH d6 g2;have:uU k=180:=by rcases hk with rfl|rfl<;>rfl
     show lE (uU k) _ _ _;rw[this];exact aaA hk (by simp at kH;omega) hp
   . obtain rfl:(⟨true,false,false,[⟨.type,1,1⟩]⟩:iQ)=fo:=by simpa [bS] using gY
     obtain⟨A,rfl,_⟩:=oW g2;exact Ri hp
   . have nv:fo=⟨false,true,false,[]⟩:=by rcases hk with rfl|rfl<;>simpa [bS] using gY.symm
     subst nv;obtain rfl:=nil g2;have:uU k=182:=by rcases hk with rfl|rfl<;>rfl
     show lE (uU k) _ _ _;rw[this];exact TA hk f3
   . obtain rfl:(⟨false,false,false,[⟨.base,2,900⟩]⟩:iQ)=fo:=by simpa [bS] using gY
     obtain⟨hl,_⟩:=K2 g2;obtain⟨ps,B,rfl⟩:=oE (l:=ks) d6;exact Rf (by simp at kH;omega) hp
   . obtain rfl:(⟨false,false,false,[⟨.term,2,900⟩]⟩:iQ)=fo:=by simpa [bS] using gY
     obtain⟨hl,hc⟩:=K2 g2
     match ks,hl with
     | A::ts,_=>exact aaE (by simp at kH;omega) hv hp λt ht=>hc t ht
   . obtain rfl:(⟨false,false,false,[⟨.term,3,3⟩]⟩:iQ)=fo:=by simpa [bS] using gY
     obtain⟨A,B,C,rfl,hA,hB,hC⟩:=adj g2;exact aey hv hp hA hB hC
   . have nv:fo=⟨false,false,false,[⟨.term,2,2⟩]⟩:=by rcases hk with rfl|rfl<;>simpa [bS] using gY.symm
     subst nv;obtain⟨A,B,rfl,hA,hB⟩:=BG g2;rcases hk with rfl|rfl
     . exact LL (k:=11) (w:=lU) (u:=vr) d8 hv hp hA hB
     . exact LL (k:=15) (w:=jz) (u:=gh) d8 hv hp hA hB
   . obtain rfl:(⟨true,true,true,[⟨.term,1,1⟩]⟩:iQ)=fo:=by simpa [bS] using gY
     obtain⟨A,rfl,hA⟩:=oW g2;exact aaC f3 f4 hv hp hA
   . obtain rfl:(⟨true,false,false,[⟨.term,2,2⟩]⟩:iQ)=fo:=by simpa [bS] using gY
     obtain⟨A,B,rfl,hA,hB⟩:=BG g2;exact Rh hv hp hA hB
   . obtain rfl:(⟨true,true,false,[⟨.term,1,1⟩]⟩:iQ)=fo:=by simpa [bS] using gY
     obtain⟨A,rfl,hA⟩:=oW g2;exact Ov f3 hv hp hA
   . obtain rfl:(⟨true,false,false,[⟨.term,1,1⟩]⟩:iQ)=fo:=by simpa [bS] using gY
     obtain⟨A,rfl,hA⟩:=oW g2;exact aaD hv hp hA
   . have nv:fo=⟨false,false,false,[⟨.term,2,2⟩]⟩:=by
      simp only[ym,dy,List.not_mem_nil,or_false]at hk;rcases hk with rfl|rfl|rfl|rfl|rfl|rfl|rfl|rfl
      all_goals first
       | exact absurd rfl Ao
       | simpa [bS] using gY.symm
     subst nv;obtain⟨A,B,rfl,hA,hB⟩:=BG g2;have:uU k=183:=by
      simp only[ym,dy,List.not_mem_nil,or_false]at hk;rcases hk with rfl|rfl|rfl|rfl|rfl|rfl|rfl|rfl<;>rfl
     show lE (uU k) _ _ _;rw[this];exact Pv hk (.inr ⟨Ao,B,rfl,hB⟩) hv hp hA
   . obtain rfl:(⟨false,false,false,[⟨.term,1,1⟩]⟩:iQ)=fo:=by simpa [bS] using gY
     obtain⟨A,rfl,hA⟩:=oW g2;exact aaB hv hp hA
   . obtain rfl:(⟨false,true,false,[⟨.term,1,1⟩]⟩:iQ)=fo:=by simpa [bS] using gY
     obtain⟨A,rfl,hA⟩:=oW g2;exact Pv (k:=25) (rs:=[]) d7 (.inl ⟨rfl,rfl,f3⟩) hv hp hA
   . obtain rfl:(⟨false,true,false,[]⟩:iQ)=fo:=by simpa [bS] using gY
     obtain rfl:=nil g2;exact aaG f3
   . have nv:fo=⟨false,false,false,[]⟩:=by rcases hk with rfl|rfl|rfl|rfl<;>simpa [bS] using gY.symm
     subst nv;obtain rfl:=nil g2;rcases hk with rfl|rfl|rfl|rfl
     . exact yN (k:=27) (w:=eA) d8
     . exact yN (k:=28) (w:=eK) d8
     . exact yN (k:=29) (w:=gG) d8
     . exact yN (k:=30) (w:=iZ) d8
   . obtain rfl:(⟨true,false,false,[]⟩:iQ)=fo:=by simpa [bS] using gY
     obtain rfl:=nil g2;exact TC
   . obtain rfl:(⟨true,false,false,[]⟩:iQ)=fo:=by simpa [bS] using gY
     obtain rfl:=nil g2;exact aaF
   . obtain rfl:(⟨true,false,false,[]⟩:iQ)=fo:=by simpa [bS] using gY
     obtain rfl:=nil g2;exact TD
   . exact TB d6 hp
   . obtain rfl:(⟨false,false,false,[⟨.kind 37,1,900⟩,⟨.term,1,1⟩]⟩:iQ)=fo:=by simpa [bS] using gY
     obtain⟨ps,B,rfl,hl,_,hB⟩:=Hb d6 g2;exact aez (by simp at kH;omega) hl hv hp hB
   . obtain rfl:(⟨false,false,false,[⟨.term,1,1⟩,⟨.kind 37,1,1⟩,⟨.term,1,1⟩]⟩:iQ)=fo:=by simpa [bS] using gY
     obtain⟨A,B,C,rfl,hA,_,hC⟩:=P9 g2;exact Ow hv hp hA hC
   . obtain rfl:(⟨true,false,false,[]⟩:iQ)=fo:=by simpa [bS] using gY
     obtain rfl:=nil g2;exact TE
def M6(hv:Sl v L)(hL:L.length<=1000)(hz:∀(i:Nat)(y:Nd),L[i]?=some y->y.size<=100000):∀(N:Nat)(s:Tre)(n:Nat),s.flat.length<=N->dP L n s->s.flat.length<=900->s.ok->s.kind≠1->s9 v n s
 | 0,s,n,hN,_,_,_,_=>by have:=s.eC;omega
 | N+1,s,n,hN,hs,h9,ho,h1=>by
   have hk:=AJ ho;have p6:=lQ s;refine aeX hv hL hz hs rfl (agj hv.s h9 ho h1 ⟨iw _ _,λi q t hq ht=>?_⟩);obtain⟨u,hu,G5⟩:=oG hs.kids hq;rw[ht]at hu;obtain rfl:t=u:=by simpa using hu
   have hm:=fT ht;have aA:=Tre.Dk hm;obtain⟨k1,k2⟩:=hk t hm;obtain⟨x,hx,p9,_⟩:=G5.oS;exact⟨M6 hv hL hz N t q d6 G5 d6 k2 k1,x,hx,p9⟩
end
end Go.Rip
