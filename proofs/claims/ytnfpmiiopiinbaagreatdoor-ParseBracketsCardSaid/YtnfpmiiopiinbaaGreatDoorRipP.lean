/- Lemmas for the proof: no conditions. -/
import Derived.Test.YtnfpmiiopiinbaaGreatDoorRipZz
import Derived.Test.YtnfpmiiopiinbaaGreatDoorRipN
import Derived.Test.YtnfpmiiopiinbaaGreatDoorRipE
import Derived.Test.YtnfpmiiopiinbaaGreatDoorRipF
set_option linter.unusedVariables false
set_option linter.unusedSimpArgs false
set_option linter.loopingSimpArgs false
namespace Go.Rip
open Go.Proofs Go.RowKit
def cls (c:Int):Int:=if c=32\/c=10 then 1 else if c<32\/c > 126 then 0 else if 48<=c/\c<=57 then 2 else if 97<=c/\c<=122 then 3 else if 65<=c/\c<=90 then 4 else 5
theorem JV (c:Int):Pure K 216 [.int .u8 c] (.int .i64 (cls c)):=by
 intro U R hR;refine Vy ?_;simp (contextual:=true) only[Vx,Fl,C9,bA,bV,nG,eM,jc,al,bo,aP,sM,cB,cN,aJ,aQ,nw,afg,cq,bH,bq,dG,eS,ite_true,ite_false,beq_true,beq_false,dm,fx,eg,if_true,if_false,true_and,and_true,not_true,not_false_iff]
 repeat' (first|refine And.intro ?_ ?_|intro _)
 all_goals (refine aq.eq hR ?_; simp only[cls,AV.int.injEq,true_and])
 all_goals grind
def KU (l:List Int) (s:Int):Int:=match l.findIdx? (·=s) with|some i=>i|none=>-1
theorem MX (c:mr) (l:List Int) (s:Int) (hn:l.length<=100000):Pure K 246 [.vec l.length c (l.map (.int .i64)),.int .i64 s] (.int .i64 (KU l s)):=by
 intro U R hR;refine VU ?_;simp only[VT,vj,al];refine⟨λ m v0 v1 v7 v8 ad=>∃ i:Nat,m=l.length-i/\i<=l.length/\v0=.vec l.length c (l.map (.int .i64))/\v1=.int .i64 s/\v7=.int .i64 l.length/\v8=.int .i64 i/\ad=U/\∀ j,j<i->l[j]?≠some s,⟨l.length,0,by simp[Fn.app]⟩,?_⟩;intro m v0 v1 v7 v8 ad hI;obtain⟨i,rfl,hi,rfl,rfl,rfl,rfl,rfl,kf⟩:=hI;simp only[bV,al,cq];refine⟨λ aN=>?_,λ kV=>?_⟩
 . have aN:i<l.length:=by omega
   have hd:(l.map (AV.int .i64)).drop (i*1)=.int .i64 l[i]::(l.map (AV.int .i64)).drop (i+1):=by
    rw[Nat.mul_one,gM (by simpa using aN)]; simp
   simp only[Ag,wp_cond,al,fW,hd,wK,dT,bA,cq];refine⟨by omega,λ he=>?_,λ ca=>?_⟩
   . refine aq.eq hR ?_;have:l.findIdx? (·=s)=some i:=by
      rw[LF];refine⟨aN,by simp[he],λ j hj=>?_⟩;have:=kf j hj;rw[qM (by omega)]at this;simpa using this
     simp[KU,this]
   . simp only[nF,iv,wp_cond,al];refine⟨bI (by omega) (by omega),?_⟩;refine⟨l.length-(i+1),by omega,i+1,rfl,by omega,rfl,rfl,rfl,by simp,rfl,λ j hj=>?_⟩;rcases kI j i with h|h
     . exact kf j h
     . have:j=i:=by omega
       subst this;rw[qM aN]; simpa using λ h=>ca h.symm
 . refine aq.eq hR ?_;have:l.findIdx? (·=s)=none:=by
    rw[List.findIdx?_eq_none_iff];intro x hx;obtain⟨j,hj,rfl⟩:=List.getElem_of_mem hx;have:=kf j (by omega);rw[qM hj]at this;simpa using this
   simp[KU,this]
theorem MV (l:List Int) (s:Int):decide (0<=KU l s)=decide (s∈l):=by
 unfold KU;split
 . rename_i j hj;obtain⟨h1,h2,_⟩:=LF.1 hj;have:s∈l:=by have:=of_decide_eq_true h2; exact this▸List.getElem_mem h1
   simp[this]
 . rename_i hj;rw[List.findIdx?_eq_none_iff]at hj;have:s∉l:=λ hm=>by simpa using hj s hm
   simp[this]
theorem y6 (c:Int) (cp:mr) (l:List Int) (hn:l.length<=100000):Pure K 151 [.int .u8 c,.vec l.length cp (l.map (.int .i64))] (.bool (decide (cls c∈l))):=by
 intro U R hR;refine UM ?_;refine (JV c).go ?_;refine Vw ?_;refine (MX cp l (cls c) hn).go ?_;simp only[jc,al,MV];exact aq.mk (aq.mk hR)
theorem HG (c:UInt8):decide (cls c.toNat∈[2])=gK c:=by
 unfold cls gK;rw[qO];simp only[kn,eg]
 grind
theorem SX (c:UInt8):decide (cls c.toNat∈[3])=mM c:=by
 unfold cls mM;rw[qO];simp only[kn,eg]
 grind
theorem SU (c:UInt8):decide (cls c.toNat∈[2,3,4])=dj c:=by
 unfold cls dj gK mM Jj;rw[qO];simp only[cK,List.not_mem_nil,or_false,eg,kJ]
 grind
theorem SW (c:UInt8):(!decide (cls c.toNat∈[0]))=lA c:=by
 unfold cls lA;rw[qO];simp only[kn,eg,Bool.not_eq_true',decide_eq_false_iff_not]
 grind
theorem MY (c:UInt8):Pure K 146 [.int .u8 c.toNat] (.bool (lA c)):=by
 intro U R hR;refine UE ?_;unfold UD;rw[hZ];refine⟨by omega,?_⟩;rw[ff (o:=0) (s:=1) rfl];refine⟨⟨rfl,rfl,by simp[bT]⟩,?_⟩;rw[ja];refine⟨rfl,?_⟩;refine (y6 c.toNat .full [0] (by simp)).go ?_;simp only[eT,al,SW];exact aq.mk hR
theorem getD_at {s:aG} {i:Nat} (h:i<s.length):s.getD i 0=s[i]:=by simp[oC,h]
theorem WJ (s:aG):Pure K 74 [.str s] (.aK [.int .i64 (rD s).1,.int .i64 (rD s).2]):=by
 intro U R hR;refine Yt ?_;unfold aay;simp only[ou,al,eM,cq];unfold rD at hR;refine⟨λ h=>?_,λ h=>?_⟩
 . rw[if_pos (by omega)]at hR;exact aq.mk hR
 . rw[if_neg (by omega)]at hR;refine⟨λ m v0 v9 v10 ad=>∃ i:Nat,m=s.length-i/\i<=s.length/\v0=.str s/\v9=.int .i64 s.length/\v10=.int .i64 i/\ad=U/\∀ j (hj:j<s.length),j<i->lA s[j]=true,⟨s.length,0,by simp[Fn.app]⟩,?_⟩;rintro m v0 v9 v10 ad ⟨i,rfl,hi,rfl,rfl,rfl,rfl,ck⟩;simp only[bV,al,cq];refine⟨λ aN=>?_,λ kV=>?_⟩
   . have aN:i<s.length:=by omega
     rw[CD];refine⟨by omega,?_⟩;rw[fW,getD_at aN];refine (MY s[i]).go ?_;simp only[eT,al];cases hb:lA s[i] with
     | false =>
       simp only[fx,bH];have:s.findIdx? (λ c=>!lA c)=some i:=by
        rw[LF];exact⟨aN,by simp[hb],λ j hj=>by simp[ck j (by omega) hj]⟩
       rw[this]at hR;exact aq.mk hR
     | true =>
       simp only[dm,bq,dO];refine⟨bI (by omega) (by omega),s.length-(i+1),by omega,i+1,rfl,by omega,rfl,rfl,by simp,rfl,λ j hj AX=>?_⟩;rcases kI j i with h|h
       . exact ck j hj h
       . have:j=i:=by omega
         subst this; exact hb
   . have:s.findIdx? (λ c=>!lA c)=none:=by
      rw[List.findIdx?_eq_none_iff];intro x hx;obtain⟨j,hj,rfl⟩:=List.getElem_of_mem hx;simp[ck j hj (by omega)]
     rw[this]at hR;exact aq.mk hR
theorem Ak {p:UInt8->Bool}:∀ {l:aG},(∀ x∈l,p x=true)->l.takeWhile p=l
 | [],_=>rfl
 | c::l,h=>by rw[mV,h c (by simp)]; simp[Ak (l:=l) λ x hx=>h x (by simp[hx])]
theorem run_pure (s:aG) (hs:s.length<=100000):Pure K 149 [.str s] (.int .i64 (s.takeWhile dj).length):=by
 intro U R hR;refine UJ ?_;unfold UI;refine⟨λ m v0 v2 ad=>∃ i:Nat,m=s.length-i/\i<=s.length/\v0=.str s/\v2=.int .i64 i/\ad=U/\∀ j (hj:j<s.length),j<i->dj s[j]=true,⟨s.length,0,by simp[Fn.app]⟩,?_⟩;rintro m v0 v2 ad ⟨i,rfl,hi,rfl,rfl,rfl,ck⟩;have tB:(s.take i).takeWhile dj=s.take i:=by
  refine Ak λ x hx=>?_;obtain⟨j,hj,rfl⟩:=List.getElem_of_mem hx;simp only[List.length_take]at hj;rw[List.getElem_take];exact ck j (by omega) (by omega)
 have CZ:s.takeWhile dj=s.take i++(s.drop i).takeWhile dj:=by
  conv=>lhs; rw[<- List.take_append_drop i s]
  rw[List.takeWhile_append,tB];simp
 simp only[ou,al,bV,bo,aP]
 by_cases aN:i<s.length
 . have uD:(i:Int)<s.length:=by omega
   simp only[uD,dG,iY,cB,aJ,Jr,nw,fW,getD_at aN];refine⟨by simp,?_⟩;rw[zz];refine⟨by omega,?_⟩;rw[vR (o:=0) (s:=1) rfl];refine⟨⟨rfl,rfl,by simp[bT]⟩,?_⟩;rw[vR (o:=1) (s:=1) rfl];refine⟨⟨rfl,rfl,by simp[bT,ay]⟩,?_⟩;rw[vR (o:=2) (s:=1) rfl];refine⟨⟨rfl,rfl,by simp[bT,ay]⟩,?_⟩;rw[Cq];refine⟨rfl,_,y6 s[i].toNat .full [2,3,4] (by simp),?_⟩;rw[SU];simp only[aQ,if_true,al];have hd:s.drop i=s[i]::s.drop (i+1):=gM aN;cases hb:dj s[i] with
   | true =>
     simp only[bH,dO];refine⟨bI (by omega) (by omega),s.length-(i+1),by omega,i+1,rfl,by omega,rfl,by simp,rfl,λ j hj AX=>?_⟩;rcases kI j i with h|h
     . exact ck j hj h
     . have:j=i:=by omega
       subst this; exact hb
   | false =>
     simp only[bq];refine aq.eq hR ?_;rw[CZ,hd,mV,hb];simp;omega
 . have uD:¬ (i:Int)<s.length:=by omega
   simp only[uD,eS,show (false==true)=false from rfl,cN,aQ,bZ,if_false,al,bq];refine aq.eq hR ?_;rw[CZ,List.drop_eq_nil_of_le (by omega)];simp; omega
end Go.Rip
namespace Go.Rip
open Go.Proofs Go.RowKit
theorem Tp {s:aG} {i:Nat} (h:i<s.length):kW 0 (s.take (i+1))=min (10*kW 0 (s.take i)+((s[i].toNat:Int)-48)) 1000001:=by
 have:s.take (i+1)=s.take i++[s[i]]:=by rw[tK,qM h]; rfl
 rw[this];unfold kW;rw[List.foldl_append];rfl
theorem Na (s:aG) (hs:s.length<=100000):Pure K 152 [.str s] (.int .i64 (pI s)):=by
 intro U R hR;refine UO ?_;unfold UN;simp only[ou,al];refine⟨λ m v0 v3 v6 v7 ad=>∃ i:Nat,m=s.length-i/\i<=s.length/\v0=.str s/\v3=.int .i64 (kW 0 (s.take i))/\v6=.int .i64 s.length/\v7=.int .i64 i/\ad=U/\(s.take i).all gK=true,⟨s.length,0,by simp[Fn.app,kW]⟩,?_⟩;rintro m v0 v3 v6 v7 ad ⟨i,rfl,hi,rfl,rfl,rfl,rfl,rfl,ck⟩;have hb:=Gy (s.take i) 0 (by omega);have wA:=vo (s.take i) 0 ck (by omega);simp only[bV,al,cq];refine⟨λ aN=>?_,λ kV=>?_⟩
 . have aN:i<s.length:=by omega
   rw[CD];refine⟨by omega,?_⟩;rw[fW,getD_at aN,hZ];refine⟨by omega,?_⟩;rw[ff (o:=0) (s:=1) rfl];refine⟨⟨rfl,rfl,by simp[bT]⟩,?_⟩;rw[ja];refine⟨rfl,?_⟩;refine (y6 s[i].toNat .full [2] (by simp)).go ?_;rw[HG];simp only[eT,al];have gr:s.take (i+1)=s.take i++[s[i]]:=by rw[tK,qM aN]; rfl
   cases hd:gK s[i] with
   | false =>
     simp only[fx,bH];refine aq.eq hR ?_;have:s.all gK=false:=by
      rw[Bool.eq_false_iff];intro h;rw[fm]at h;rw[h s[i] (List.getElem_mem aN)]at hd;cases hd
     simp[pI,this]
   | true =>
     have hc:=jA.1 hd;simp only[dm,bq,aia];refine⟨bI (by omega) (by omega),?_⟩;rw[CD];refine⟨by omega,?_⟩;rw[fW,getD_at aN];have hw:IntKind.u8.wrap ((s[i].toNat:Int)-48)=(s[i].toNat:Int)-48:=by
      show ((s[i].toNat:Int)-48)%256=_;omega
     simp only[l9,WA,al,hw,B7,wp_cond,dO,abI];refine⟨bI (by omega) (by omega),bI (by omega) (by omega),bI (by omega) (by omega),?_⟩;refine⟨s.length-(i+1),by omega,i+1,rfl,by omega,rfl,?_,rfl,by simp,rfl,?_⟩
     . rw[Tp aN];congr 1;omega
     . rw[gr,List.all_append,ck]; simp[hd]
 . have hi:i=s.length:=by omega
   subst hi;rw[tJ]at ck hb wA ⊢;have hv:Lp s=kW 0 s:=rfl;simp only[ou,al,eM,bo,aP]
   by_cases h1:1<s.length
   . have vD:(1:Int)<s.length:=by omega
     simp only[vD,dG,iY,cB,aJ,Jr,nw,bA,aQ,if_true,al,cq];have h0:s.getD (0:Int).toNat 0=s[0]:=getD_at (by omega);rw[h0];have hh:s.head?=some s[0]:=by
      cases s with
      | nil=>simp at h1
      | cons c r=>rfl
     refine⟨⟨by omega,by omega⟩,λ Sf=>?_,λ Sf=>⟨λ hm=>?_,λ hm=>?_⟩⟩
     . refine aq.eq hR ?_;have e48:s[0].toNat=(48:UInt8).toNat:=by show s[0].toNat=48; omega
       have:s[0]=48:=UInt8.toNat_inj.1 e48;simp[pI,ck,h1,hh,this]
     . refine aq.eq hR ?_;have:¬ s[0]=48:=λ e=>Sf (by rw[e]; rfl);simp[pI,ck,hh,this,hv,hm]
     . refine aq.eq hR ?_;have:¬ s[0]=48:=λ e=>Sf (by rw[e]; rfl);simp[pI,ck,hh,this,hv,hm]
   . have vD:¬ (1:Int)<s.length:=by omega
     simp only[vD,eS,show (false==true)=false from rfl,cN,aQ,bZ,if_false,al,bq,cq];refine⟨λ hm=>?_,λ hm=>?_⟩
     . refine aq.eq hR ?_;simp[pI,ck,h1,hv,hm]
     . refine aq.eq hR ?_;simp[pI,ck,h1,hv,hm]
theorem xY (s p:aG):Pure K 213 [.str s,.str p] (.bool (p.isPrefixOf s)) :=
 Pure.DJ (vs:=[.string ⟨s.toArray⟩,.string ⟨p.toArray⟩]) (v:=.bool (p.isPrefixOf s)) (λ g us h=>by
  simp only[aH,aA]at h;obtain⟨_,_,rfl,rfl,_,_,rfl,rfl,rfl⟩:=h; rfl) (λ g=>by simp only[aA]) λ w=>Tryz.strings_HasPrefix ⟨s.toArray⟩ ⟨p.toArray⟩ w
theorem zI (s:aG):(jt.find? λ x=>x.isPrefixOf s)=if bQ.isPrefixOf s then some bQ else if fY.isPrefixOf s then some fY else match s with
 | []=>none
 | c::_=>if c∈eN then some [c] else none:=by
 cases s with
 | nil=>rfl
 | cons c r =>
   by_cases h1:bQ.isPrefixOf (c::r)=true
   . simp only[jt,List.find?_cons,h1,if_true]
   . by_cases h2:fY.isPrefixOf (c::r)=true
     . simp only[jt,List.find?_cons,h1,h2,if_true,bZ,if_false]
     . simp only[jt,List.find?_cons,h1,h2,bZ,if_false];have e:∀ x:UInt8,[x].isPrefixOf (c::r)=(x==c):=λ x=>by simp[List.isPrefixOf]
       simp only[show gP=[61] from rfl,show ud=[60] from rfl,show ub=[43] from rfl,show sX=[45] from rfl,show u9=[42] from rfl,show mT=[33] from rfl,show bK=[40] from rfl,show bJ=[41] from rfl,show gQ=[123] from rfl,show jJ=[125] from rfl,show cH=[44] from rfl,show cC=[59] from rfl,show dk=[58] from rfl,show uc=[46] from rfl,e]
       by_cases hc:c∈eN
       . rw[if_pos hc];simp only[eN,cK,List.not_mem_nil,or_false]at hc;rcases hc with rfl|rfl|rfl|rfl|rfl|rfl|rfl|rfl|rfl|rfl|rfl|rfl|rfl|rfl<;>rfl
       . rw[if_neg hc];simp only[eN,cK,List.not_mem_nil,or_false,not_or]at hc;have f:∀ x:UInt8,¬ c=x->(x==c)=false:=λ x h=>by simp[Ne.symm h]
         simp only[f _ hc.1,f _ hc.2.1,f _ hc.2.2.1,f _ hc.2.2.2.1,f _ hc.2.2.2.2.1,f _ hc.2.2.2.2.2.1,f _ hc.2.2.2.2.2.2.1,f _ hc.2.2.2.2.2.2.2.1,f _ hc.2.2.2.2.2.2.2.2.1,f _ hc.2.2.2.2.2.2.2.2.2.1,f _ hc.2.2.2.2.2.2.2.2.2.2.1,f _ hc.2.2.2.2.2.2.2.2.2.2.2.1,f _ hc.2.2.2.2.2.2.2.2.2.2.2.2.1,f _ hc.2.2.2.2.2.2.2.2.2.2.2.2.2,List.find?_nil]
theorem KV (l:List UInt8) (c:UInt8):decide (Lib.indexByte l c<0)=!decide (c∈l):=by
 induction l with
 | nil=>simp[Lib.indexByte]
 | cons b l ih =>
   have hg:=Lib.indexByte_ge l c;unfold Lib.indexByte
   by_cases h:b=c
   . subst h; simp
   . have hc:¬ c=b:=λ e=>h e.symm;have h':(b==c)=false:=by simp[h]
     rw[h']
     by_cases hm:c∈l
     . simp only[hm,dG,dm,decide_eq_false_iff_not]at ih;have h2:(Lib.indexByte l c==-1)=false:=by simp; omega
       simp[h2,hm]; omega
     . simp only[hm,eS,fx,eg]at ih;have h2:(Lib.indexByte l c==-1)=true:=by simp; omega
       simp[h2,hm,hc]
def BH (s:aG):Int×Nat×aG:=match jt.find? λ x=>x.isPrefixOf s with|some x=>(0,4,x)|none=>(4,0,[])
def GP (p:Int×Nat×aG):AV:=.aK [.agg [.int .u8 p.2.1,.str p.2.2,.int .i64 0],.int .i64 p.1]
theorem V8 (s:aG) (hs:s.length<=100000):Pure K 150 [.str s] (GP (BH s)):=by
 refine Pure.of rfl rfl (λ U=>rfl) λ R hR=>?_;refine UL ?_;unfold UK;rw[cm];intro b hb;generalize qY:(bU _).new b _=U;have iN:U.box b=some [AV.int .u8 0,AV.str [],AV.int .i64 0]:=by rw[<- qY]; exact aD
 clear qY hb;have Y8:∀ {K':AV->St->Prop} {Kp:AV->St->Prop} {z:List AV} {ps:List (Nat×AV)} {U:St},(ek none (some z) (some (2,9,1)) ps).wp K U K' Kp=(ib (λ i=>some (i*1,1)) ps z λ z=>.val (.agg z)).wp K U K' Kp:=rfl;rw[Y8,ff (o:=0) (s:=1) rfl];refine⟨⟨rfl,rfl,by simp⟩,?_⟩;rw[ff (o:=1) (s:=1) rfl];refine⟨⟨rfl,rfl,by simp[ay]⟩,?_⟩;rw[acv];have fin:∀ (k:Nat) (x:aG) (e:Int) (ps:List (Nat×AV)) (ad:St),ad.box b=some [AV.int .u8 0,AV.str [],AV.int .i64 0]->uB [(0,1),(1,1),(2,1)] ps [AV.int .u8 0,AV.str [],AV.int .i64 0]=some [.int .u8 k,.str x,.int .i64 0]->BH s=(e,k,x) ->
  (ek (some [(0,1),(1,1),(2,1)]) (some [AV.int .u8 0,AV.str [],AV.int .i64 0]) none ps).wp K ad (λ v U=>(aI (some (true,3)) (.box b 0) v U).wp K U (λ _ U=>bD (some (true,3)) (.box b 0) U λ r0=>aq R (.aK [r0,.int .i64 e]) U) (aa R)) (aa R):=by
  intro k x e ps ad eY h1 h2;refine pK _ h1 ?_;rw[cI eY];refine⟨⟨rfl,rfl,by simp⟩,?_⟩;rw[pT aT];refine⟨by simp[ay],?_⟩;rw[h2]at hR;exact aq.eq (hR _) rfl
 refine⟨λ m v0 v2 v6 v7 ad=>∃ i:Nat,m=2-i/\i<=2/\v0=.str s/\v2=.box b 0/\v6=.agg [.str bQ,.str fY]/\v7=.int .i64 i/\ad.box b=some [AV.int .u8 0,AV.str [],AV.int .i64 0]/\(0<i->bQ.isPrefixOf s=false)/\(1<i->fY.isPrefixOf s=false),
  ⟨2,0,rfl,by omega,rfl,rfl,rfl,rfl,iN,by simp,by simp⟩,?_⟩
 rintro m v0 v2 v6 v7 ad ⟨i,rfl,hi,rfl,rfl,rfl,rfl,eY,EG,hn1⟩;simp only[bV,al,cq];refine⟨λ aN=>?_,λ kV=>?_⟩
 . have aN:i<2:=by omega
   obtain rfl|rfl:i=0\/i=1:=by omega
   . simp only[jf,wp_cond];refine⟨by omega,?_⟩;simp only[show ((0:Nat):Int).toNat*1=0 from rfl,List.drop,jH,al];refine (xY s bQ).go ?_;cases hp:bQ.isPrefixOf s with
     | true =>
       simp only[bH];refine fin 4 bQ 0 _ ad eY rfl ?_;simp[BH,zI,hp]
     | false =>
       simp only[bq,dO];exact⟨bI (by omega) (by omega),1,by omega,1,rfl,by omega,rfl,rfl,rfl,rfl,eY,λ _=>by first|exact hp|trivial,by simp⟩
   . simp only[jf,wp_cond];refine⟨by omega,?_⟩;simp only[show ((1:Nat):Int).toNat*1=1 from rfl,List.drop,jH,al];refine (xY s fY).go ?_;cases hp:fY.isPrefixOf s with
     | true =>
       simp only[bH];refine fin 4 fY 0 _ ad eY rfl ?_;simp[BH,zI,hp,EG (by omega)]
     | false =>
       simp only[bq,dO];exact⟨bI (by omega) (by omega),0,by omega,2,rfl,by omega,rfl,rfl,rfl,rfl,eY,λ _=>EG (by omega),λ _=>by first|exact hp|trivial⟩
 . have hi2:i=2:=by omega
   subst hi2;have p0:=EG (by omega);have p1:=hn1 (by omega);simp only[gZ,al,bo,aP];cases s with
   | nil =>
     simp only[show w_=([]:List UInt8) from rfl,dG,show (true==false)=false from rfl,cN,aQ,if_true,al,bH];exact fin 0 [] 4 _ ad eY rfl rfl
   | cons c r =>
     have ca:¬ (c::r=w_):=by simp[show w_=([]:List UInt8) from rfl]
     simp only[ca,eS,iY,cB,aJ,Jr,nw,aQ,bZ,if_false,al];refine⟨by simp,_,yg eN c.toNat,?_⟩;simp only[bV,aJ,aQ,bZ,if_false,al];have Zu:((c.toNat:Int).toNat).toUInt8=c:=by simp
     rw[Zu,KV];cases hm:decide (c∈eN) with
     | false =>
       have SB:¬ c∈eN:=by simpa using hm
       simp only[fx,bH];refine fin 0 [] 4 _ ad eY rfl ?_;simp[BH,zI,p0,p1,SB]
     | true =>
       have SB:c∈eN:=by simpa using hm
       simp only[dm,bq,uv,oT,kU,wp_cond,al];refine⟨⟨by omega,by omega,by simp; omega⟩,?_⟩;refine fin 4 [c] 0 _ ad eY rfl ?_;simp[BH,zI,p0,p1,SB]
end Go.Rip
namespace Go.Rip
open Go.Proofs Go.RowKit
theorem Ld (s:aG):∀ l:List aG,oZ .s (.str s) (.bool false) false (l.map .str) (l.map λ _=>.bool true)=.val (.bool (decide (s∈l)))
 | []=>by simp[oZ]
 | x::l=>by
   simp only[dH,oZ,jg]
   by_cases h:s=x
   . subst h; simp
   . rw[show (s==x)=false by simp[h]];have:=Ld s l;simp only[bZ,if_false,this];simp[h]
theorem Wr:FV=.gJ (lW.map .str) (lW.map λ _=>.bool true):=rfl
theorem Rj (s:aG) (U:St):eQ (some (.s,4)) (some (AV.bool false)) FV (.str s) false U=.val (.bool (decide (s∈lW))):=by
 rw[Wr];simp only[eQ,lH,rn];exact Ld s lW
theorem yT (s:aG) (hs:s.length<=100000):Pure K 77 [.str s] (GP (iK s)):=by
 refine Pure.of rfl rfl (λ U=>rfl) λ R hR=>?_;refine Yw ?_;unfold aaB;rw[cm];intro b hb;generalize qY:(bU _).new b _=U;have iN:U.box b=some [AV.int .u8 0,AV.str [],AV.int .i64 0]:=by rw[<- qY]; exact aD
 clear qY hb;refine (run_pure s hs).go ?_;have tB:s.take (s.takeWhile dj).length=s.takeWhile dj:=by
  have:=xx dj (l:=s);exact (List.prefix_iff_eq_take.1 this).symm
 have hle:(s.takeWhile dj).length<=s.length:=(xx dj).length_le;simp only[uv,oT,kU,wp_cond,al,fW,tB,show (0:Int).toNat=0 from rfl,eG,gZ,cq];refine⟨⟨by omega,by omega,by omega⟩,λ h0=>?_,λ h0=>?_⟩
 . have h0:s.takeWhile dj=[]:=h0;refine (V8 s hs).go ?_;simp only[GP,bp,List.drop,bC];rw[cI iN];refine⟨⟨rfl,rfl,by simp⟩,?_⟩;rw[pT aT];refine⟨by simp[ay],aq.eq (hR _) ?_⟩;have:iK s=BH s:=by unfold iK BH; rw[h0]; rfl
   rw[this]; rfl
 . cases hw:s.takeWhile dj with
   | nil=>exact absurd hw h0
   | cons c r =>
     have hlw:(c::r).length<=s.length:=by rw[<- hw]; exact hle
     have ht:iK s=if gK c then (pI (c::r),2,c::r) else if mM c=false then (4,0,[]) else if (c::r)∈lW then (0,3,c::r) else if 12<(c::r).length then (4,0,[]) else (0,1,c::r):=by
      unfold iK; rw[hw]
     have fin:∀ (k:Nat) (x:aG) (e:Int) (zs:List AV) (ad:St),zs=[.int .u8 k,.str x,.int .i64 0]->ad.box b=some [AV.int .u8 0,AV.str [],AV.int .i64 0]->iK s=(e,k,x) ->
      (aI (some (true,3)) (.box b 0) (.agg zs) ad).wp K ad (λ _ U=>bD (some (true,3)) (.box b 0) U λ r0=>aq R (.aK [r0,.int .i64 e]) U) (aa R):=by
      intro k x e zs ad hz eY h2;subst hz;rw[cI eY];refine⟨⟨rfl,rfl,by simp⟩,?_⟩;rw[pT aT];refine⟨by simp[ay],?_⟩;rw[h2]at hR;exact aq.eq (hR _) rfl
     have one:∀ (cl:Int) (K':AV->St->Prop) (ad:St),K' (.bool (decide (cls c.toNat∈[cl]))) ad ->
      (jf true none none (.str (c::r)) (.int .i64 0)).wp K ad (λ cw U=>(au (some (178,1)) (some [AV.int .i64 0]) 1 false [(0,(AV.int .i64 cl))]).wp K U (λ dt U=>ae K 151 [cw,dt] U (ah K' (aa R))) (aa R)) (aa R):=by
      intro cl K' ad h;rw[CD];refine⟨⟨by omega,by simp⟩,?_⟩;rw[hZ];refine⟨by omega,?_⟩;rw[ff (o:=0) (s:=1) rfl];refine⟨⟨rfl,rfl,by simp[bT]⟩,?_⟩;rw[ja];refine⟨rfl,?_⟩;exact (y6 c.toNat .full [cl] (by simp)).go h
     refine one 2 _ _ ?_;rw[HG];cases hd:gK c with
     | true =>
       simp only[bH];refine pK [.int .u8 2,.str (c::r),.int .i64 0] rfl ?_;refine (Na (c::r) (by omega)).go ?_;exact fin 2 (c::r) _ _ _ rfl iN (by rw[ht,if_pos hd])
     | false =>
       simp only[bq];refine one 3 _ _ ?_;rw[SX];simp only[eT,al];have zZ:¬ (gK c=true):=by rw[hd]; simp
       cases qX:mM c with
       | false =>
         simp only[fx,bH];refine pK [.int .u8 0,.str [],.int .i64 0] rfl ?_;exact fin 0 [] _ _ _ rfl iN (by rw[ht,if_neg zZ,if_pos qX])
       | true =>
         have fp:¬ (mM c=false):=by rw[qX]; simp
         simp only[dm,bq];refine FY.go ?_;simp only[Rj,al,cq,ou,eM];refine⟨λ hk=>?_,λ hk=>⟨λ hl=>?_,λ hl=>?_⟩⟩
         . refine pK [.int .u8 3,.str (c::r),.int .i64 0] rfl ?_;exact fin 3 (c::r) _ _ _ rfl iN (by rw[ht,if_neg zZ,if_neg fp,if_pos hk])
         . refine pK [.int .u8 0,.str [],.int .i64 0] rfl ?_;exact fin 0 [] _ _ _ rfl iN (by rw[ht,if_neg zZ,if_neg fp,if_neg hk,if_pos (by omega)])
         . refine pK [.int .u8 1,.str (c::r),.int .i64 0] rfl ?_;exact fin 1 (c::r) _ _ _ rfl iN (by rw[ht,if_neg zZ,if_neg fp,if_neg hk,if_neg (by omega)])
end Go.Rip
namespace Go.Rip
open Go.Proofs Go.RowKit
theorem FC (u:aG):(Lib.indexByte u 10=-1/\u.takeWhile (λ c=>c.toNat≠10)=u)\/∃ k:Nat,Lib.indexByte u 10=k/\k<u.length/\u.takeWhile (λ c=>c.toNat≠10)=u.take k:=by
 have pM:∀ c:UInt8,c.toNat=10↔c=10:=λ c=>⟨λ h=>UInt8.toNat_inj.1 h,λ h=>by rw[h]; rfl⟩
 induction u with
 | nil=>left; exact⟨rfl,rfl⟩
 | cons b u ih =>
   unfold Lib.indexByte
   by_cases hb:b=10
   . right;refine⟨0,by simp[hb],by simp,?_⟩;rw[mV];simp[(pM b).2 hb]
   . have eY:(b==10)=false:=by simp[hb]
     have hn:(decide (b.toNat≠10))=true:=by simp[pM,hb]
     rw[mV,hn];rcases ih with ⟨h1,h2⟩|⟨k,h1,h2,h3⟩
     . left; rw[h1,h2]; simp[eY]
     . right;refine⟨k+1,?_,by simp; omega,?_⟩
       . rw[h1,eY];have:((k:Int)==-1)=false:=by simp
         simp[this]
       . simp only[if_true,List.take_succ_cons,h3]
theorem WL (u:aG) (hu:u.length<=100000):∃ y z,Pure K 148 [.str u,.str sW] (.aK [.str (u.takeWhile λ c=>c.toNat≠10),y,z]):=by
 have go:∀ x y z,Pure K 212 [.str u,.str sW] (.aK [x,y,z])->Pure K 148 [.str u,.str sW] (.aK [x,y,z]):=λ x y z h U R hR=>by
  refine UH ?_;refine h.go ?_;simp only[bp,List.drop,bC];exact aq.mk hR
 have hi:=yh u 10;rcases FC u with ⟨h1,h2⟩|⟨k,h1,h2,h3⟩
 . refine⟨_,_,go _ (.str w_) (.bool false) λ U R hR=>?_⟩;refine Iz ?_;refine hi.go ?_;rw[h1];simp only[jc,al,show decide ((0:Int)<=-1)=false from rfl,bq];rw[h2]at hR;exact aq.mk hR
 . refine⟨_,_,go _ (.str (u.drop (k+1))) (.bool true) λ U R hR=>?_⟩;refine Iz ?_;refine hi.go ?_;rw[h1];have h0:decide ((0:Int)<=(k:Nat))=true:=by simp
   simp only[jc,al,h0,bH,uv,oT,kU,jN,aJ,ou,Fk,show (sW:List UInt8).length=1 from rfl,fW];refine⟨⟨by omega,by omega,by omega⟩,bI (by omega) (by omega),⟨by omega,by omega,by omega⟩,?_⟩;rw[h3]at hR;refine aq.eq hR ?_;have e1:((k:Int)+((1:Nat):Int)).toNat=k+1:=by omega
   simp[e1]
theorem abf {U:St} {R:cV->St->Prop} {b n:Nat} {c:mr} {l:List Tk} {t:Tk} {a:AV} (hb:U.box b=some [.vec n c (gO (l++[t]))]) (hn:n=l.length+1) (hl:l.length<=900) (h:R (.ret (.int .i64 t.s.length)) U):ae K 75 [a,.box b 0] U R:=by
 refine Yu ?_;subst hn;unfold aaz;simp only[il hb,List.drop,bC,vj,al,FR];refine⟨bI (by omega) (by omega),?_⟩;rw[zN];refine⟨by omega,?_⟩;have e:(((l.length+1:Nat):Int)-1).toNat=l.length:=by omega
 rw[e];obtain⟨r,hr⟩:=GO (L:=l++[t]) (i:=l.length) (t:=t) (by simp);rw[hr];simp only[dC,al,jM,dK,List.drop,oK,bC,ou];exact aq.mk h
def iB (l:List Tk):AV:=if l=[] then .ag else .vec l.length .iE (gO l)
theorem Dh (l l':List Tk):gO (l++l')=gO l++gO l':=by simp[gO]
structure TI (U:St) (b1 b2 b3 b4 b7 bs bd:Nat) (s:aG) (l:List Tk):Prop where
 h1:U.box b1=some [.str s]
 h2:∃ x,U.box b2=some [x]
 h3:∃ x,U.box b3=some [x]
 h4:∃ x,U.box b4=some [x]
 h7:∃ v,U.box b7=some [v]/\Grow U v 51 3 l.length (gO l)/\(l=[]->v=.ag)
 hs:U.box bs=some [.str s]
 hd:U.box bd=some [.func (.func 75) [] [.box b7 0]]
theorem gU {U ad:St} {b:Nat} (h:ad.live b=U.live b):ad.loop b=U.loop b:=by simp[St.loop,h]
theorem gy {U:St} {b:Nat} {L:gm}:(U.set b (.loop L)).loop b=some L:=by simp[St.loop,dW]
theorem xr {U:St} {b:Nat} {L:gm}:(U.new b (.loop L)).loop b=some L:=by simp[St.loop,nJ]
theorem bY {U:St} {b b':Nat} {l:List AV} {L:gm} (h:U.box b=some l) (k:U.loop b'=some L):b≠b':=by
 rintro rfl;unfold St.box at h; unfold St.loop at k;split at k
 . rename_i e; simp[e]at h
 . cases k
theorem tZ {U:St} {b b':Nat} {l:Tok} {L:gm} (h:U.tok b=some l) (k:U.loop b'=some L):b≠b':=by
 rintro rfl;unfold St.tok at h; unfold St.loop at k;split at k
 . rename_i e; simp[e]at h
 . cases k
theorem TI.tL {U:St} {b1 b2 b3 b4 b7 bs bd o:Nat} {s:aG} {l:List Tk} (T:TI U b1 b2 b3 b4 b7 bs bd s l) {L L':gm} (hL:U.loop o=some L):TI (U.set o (.loop L')) b1 b2 b3 b4 b7 bs bd s l:=by
 have k:∀ {b:Nat} {x:List AV},U.box b=some x->(U.set o (.loop L')).box b=some x:=λ h=>by rw[aO (bY h hL)]; exact h
 obtain⟨v,g1,g2,g3⟩:=T.h7;refine⟨k T.h1,T.h2.imp λ _ h=>k h,T.h3.imp λ _ h=>k h,T.h4.imp λ _ h=>k h,⟨v,k g1,?_,g3⟩,k T.hs,k T.hd⟩;rcases g2 with g2|⟨τ,e,ht,hl⟩
 . exact .inl g2
 . exact .inr ⟨τ,e,by rw[iL (tZ ht hL)]; exact ht,hl⟩
theorem TI.J4 {U ad:St} {b1 b2 b3 b4 b7 bs bd:Nat} {s:aG} {l:List Tk} (T:TI U b1 b2 b3 b4 b7 bs bd s l) (e:cX U ad):TI ad b1 b2 b3 b4 b7 bs bd s l:=by
 obtain⟨v,g1,g2,g3⟩:=T.h7;refine⟨e.aY T.h1,T.h2.imp λ _ h=>e.aY h,T.h3.imp λ _ h=>e.aY h,T.h4.imp λ _ h=>e.aY h,⟨v,e.aY g1,?_,g3⟩,e.aY T.hs,e.aY T.hd⟩;rcases g2 with g2|⟨τ,e1,ht,hl⟩
 . exact .inl g2
 . exact .inr ⟨τ,e1,e.tok ht,hl⟩
theorem Pure.OF {f:Nat} {args:List AV} {x:AV} (hargs:cD args=true) (hx:closed x=true)
 (h:∀ R:cV->St->Prop,(∀ v ad,resolve 5 ad v=x->R (.ret v) ad)->ae K f args (bU ⟨.e,0⟩) R):Pure K f args x :=
 Pure.Cn CN hargs hx 5 (h _ λ v ad e=>⟨v,rfl,e⟩)
theorem Nj (n:Nat) (U:St) (l:List Tk):(gO l).map (resolve (n+1) U)=gO l:=by
 induction l with
 | nil=>rfl
 | cons t l ih =>
   show ((jM t++gO l).map (resolve (n+1) U))=jM t++gO l;rw[List.map_append,ih]; rfl
theorem Pw (l:List Tk):cD (gO l)=true:=by
 induction l with
 | nil=>rfl
 | cons t l ih=>show cD (jM t++gO l)=true; simp[jM,cD,closed,ih]
theorem CH (l:List Tk):closed (iB l)=true:=by
 unfold iB; split
 . rfl
 . exact Pw l
theorem LM {U ad:St} {v:AV} {l:List Tk} (n:Nat) (h:Grow U v 51 3 l.length (gO l)) (h0:l=[]->v=.ag):resolve (n+2) ad v=iB l:=by
 unfold iB;split
 . rename_i e; rw[h0 e]; rfl
 . rename_i e;rcases h with ⟨h1,_,_⟩|⟨τ,rfl,_,_⟩
   . exact absurd (rL.1 h1) e
   . show AV.vec l.length .iE ((gO l).map (resolve (n+1) ad))=_;rw[Nj]
def sT:yJ->AV
 | .ok l=>.aK [iB l,.int .i64 0,.int .i64 0]
 | .bad p e=>.aK [.ag,.int .i64 p,.int .i64 e]
theorem cX.loop {U ad:St} {b:Nat} {L:gm} (h:cX U ad) (k:U.loop b=some L):ad.loop b=some L:=by
 cases e:U.live b with
 | none=>simp[St.loop,e]at k
 | some x=>rw[gU ((h b x e).trans e.symm)]; exact k
theorem oO {U ad:St} {v:AV} {e sz n:Nat} {l:List AV} (g:Grow U v e sz n l) (e1:∀ b x,(∀ n l,v≠.vec n (.own b) l)->U.live b=some x->ad.live b=some x) :
 (∀ {b:Nat} {x:List AV},U.box b=some x->ad.box b=some x)/\(∀ {b:Nat} {L:gm},U.loop b=some L->ad.loop b=some L):=by
 refine⟨λ {b x} h=>?_,λ {b L} h=>?_⟩
 . cases e:U.live b with
   | none=>exact absurd e (ct h)
   | some y =>
     have:=e1 b y (λ n' l' hv=>by
      rcases g with ⟨_,_,g⟩|⟨τ,g,ht,_⟩
      . rw[g]at hv; cases hv
      . rw[g]at hv; cases hv; exact fB h ht rfl) e
     rw[dS (this.trans e.symm)]; exact h
 . cases e:U.live b with
   | none=>simp[St.loop,e]at h
   | some y =>
     have:=e1 b y (λ n' l' hv=>by
      rcases g with ⟨_,_,g⟩|⟨τ,g,ht,_⟩
      . rw[g]at hv; cases hv
      . rw[g]at hv; cases hv; exact tZ ht h rfl) e
     rw[gU (this.trans e.symm)]; exact h
theorem st3 {U:St} {b2 b3 b4:Nat} {lv:AV} {p e:Int} {K':AV->St->Prop} {Kp:AV->St->Prop} (h2:∃ x,U.box b2=some [x]) (h3:∃ x,U.box b3=some [x]) (h4:∃ x,U.box b4=some [x]) (OB:b2≠b3) (Ai:b2≠b4) (Lj:b3≠b4) (hl:lv.dw=true/\av lv=[lv])
 (h:∀ ju,ju.box b2=some [lv]->ju.box b3=some [.int .i64 p]->ju.box b4=some [.int .i64 e]->(∀ b,b≠b2->b≠b3->b≠b4->ju.live b=U.live b)->K' (.aK []) ju) :
 (aI (some (false,1)) (.box b2 0) lv U).wp K U (λ _ U=>(aI (some (false,1)) (.box b3 0) (.int .i64 p) U).wp K U (λ _ U=>(aI (some (false,1)) (.box b4 0) (.int .i64 e) U).wp K U K' Kp) Kp) Kp:=by
 obtain⟨x2,h2⟩:=h2;obtain⟨x3,h3⟩:=h3;obtain⟨x4,h4⟩:=h4;rw[cI h2];refine⟨⟨hl.1,by rw[hl.2]; rfl,by simp⟩,?_⟩;rw[cI (show (U.set b2 _).box b3=some [x3] by rw[aO OB.symm]; exact h3)];refine⟨⟨rfl,rfl,by simp⟩,?_⟩;rw[cI (show ((U.set b2 _).set b3 _).box b4=some [x4] by rw[aO Lj.symm,aO Ai.symm]; exact h4)];refine⟨⟨rfl,rfl,by simp⟩,h _ ?_ ?_ ?_ λ b m2 m3 m4=>?_⟩
 . rw[aO Ai,aO OB,aT,hl.2]; rfl
 . rw[aO Lj,aT]; rfl
 . rw[aT]; rfl
 . rw[dW,if_neg m4,dW,if_neg m3,dW,if_neg m2]
theorem ua (s:aG) (hs:s.length<=3000):Pure K 33 [.str s] (sT (ix s)):=by
 refine Pure.OF rfl (by cases ix s with|ok l=>simp[sT,closed,cD,CH]|bad p e=>rfl) λ R hR=>?_
 refine Yh ?_;unfold aam;rw[gd rfl];intro b1 iN;rw[cm];intro b2 gz;rw[cm];intro b3 lu;rw[cm];intro b4 gk;have n12:b1≠b2:=gz.bO aD;have g1:=aD (U:=bU ⟨.e,0⟩) (b:=b1) (l:=av (.str s));generalize Xv:(bU _).new b1 _=aS at *;have g1':=(bg gz (x:=.box [.ag])).aY g1;have g2:=aD (U:=aS) (b:=b2) (l:=[.ag]);generalize Xw:aS.new b2 _=bf at *;have aeh:=(bg lu (x:=.box [.int .i64 0])).aY g1';have g2':=(bg lu (x:=.box [.int .i64 0])).aY g2;have g3:=aD (U:=bf) (b:=b3) (l:=[.int .i64 0]);have OB:b2≠b3:=lu.bO g2;generalize ajb:bf.new b3 _=bR at *;have k1:=(bg gk (x:=.box [.int .i64 0])).aY aeh;have k2:=(bg gk (x:=.box [.int .i64 0])).aY g2';have k3:=(bg gk (x:=.box [.int .i64 0])).aY g3;have k4:=aD (U:=bR) (b:=b4) (l:=[.int .i64 0]);have Ai:b2≠b4:=gk.bO g2';have Lj:b3≠b4:=gk.bO g3;generalize KT:bR.new b4 _=cP at *;clear Xv Xw ajb KT g1 g1' aeh g2 g2' g3 iN gz lu gk
 replace k1:cP.box b1=some [.str s]:=k1
 have fin:∀ (ad:St) (lv:AV) (p e:Int),ad.box b2=some [lv]->ad.box b3=some [.int .i64 p]->ad.box b4=some [.int .i64 e]->(∀ ju,resolve 5 ju (.aK [lv,.int .i64 p,.int .i64 e])=sT (ix s)) ->
  bD (some (false,1)) (.box b2 0) ad λ r0=>bD (some (false,1)) (.box b3 0) ad λ r1=>bD (some (false,1)) (.box b4 0) ad λ r2=>aq R (.aK [r0,r1,r2]) ad:=by
  intro ad lv p e m2 m3 m4 hres;rw[zD m2 (eG),zD m3 (eG),zD m4 (eG)];exact aq.mk (hR _ _ (hres _))
 simp only[il k1,He,List.drop,bC];refine (WJ s).go ?_;simp only[bp,List.drop,bC,c8,al];have lI:ix s=if (rD s).2≠0 then .bad (rD s).1 (rD s).2 else eR s.length s 0 []:=rfl
 by_cases he:(rD s).2=0
 . simp only[he,dG,dm,bq];rw[if_neg (by simp[he])]at lI;rw[cm];intro b7 nR;have n71:=(nR.bO k1).symm;have n72:=(nR.bO k2).symm;have n73:=(nR.bO k3).symm;have n74:=(nR.bO k4).symm;have e5:=bg nR (x:=.box [.ag]);have m7:=aD (U:=cP) (b:=b7) (l:=[.ag]);generalize ajc:cP.new b7 _=du at *;rw[il (e5.aY k1),eG,bC];refine Yv ?_;unfold aaA;rw[gd rfl];intro bs Sn;have n7s:=Sn.bO m7;have e6:=bg Sn (x:=.box (av (.str s)));have ms:=aD (U:=du) (b:=bs) (l:=av (.str s));generalize ajd:du.new bs _=mh at *;rw[gd rfl];intro bd Sj;have n7d:=Sj.bO (e6.aY m7);have e7:=bg Sj (x:=.box (av (.func (.func 75) [] [.box b7 0])));have md:=aD (U:=mh) (b:=bd) (l:=av (.func (.func 75) [] [.box b7 0]));generalize aje:mh.new bd _=jk at *;refine aq.mk ?_;refine⟨by kernel_rfl,λ o L ho Kj Sh Y=>?_⟩;have RV:=e5.trans (e6.trans e7);have T7:TI jk b1 b2 b3 b4 b7 bs bd s []:=⟨RV.aY k1,⟨_,RV.aY k2⟩,⟨_,RV.aY k3⟩,⟨_,RV.aY k4⟩,⟨_,(e6.trans e7).aY m7,.inl ⟨rfl,rfl,rfl⟩,λ _=>rfl⟩,e7.aY ms,md⟩;have T8:=T7.J4 (bg ho (x:=.loop L));have L8:=xr (U:=jk) (b:=o) (L:=L);generalize ajf:jk.new o _=tf at *;clear ajc ajd aje ajf T7 RV e5 e6 e7 m7 ms md ho Sj Sn nR k1 k2 k3 k4;refine UG ?_;unfold UF;refine⟨λ m v0 v1 v2 v4 ad=>∃ f p l,m=s.length-p/\v0=.te o/\v1=.box bs 0/\v2=.box bd 0/\v4=.int .i64 (p:Nat)/\p<=s.length/\s.length-p<=f/\l.length<=900/\eR f s p l=ix s/\TI ad b1 b2 b3 b4 b7 bs bd s l/\∃ L1,ad.loop o=some L1/\L1.st .ready none=L/\L1.state=.ready/\L1.gL=none,
    ⟨_,s.length,0,[],rfl,rfl,rfl,rfl,rfl,by omega,by omega,by simp,lI.symm,T8,L,L8,by cases L; simp_all [gm.st],Kj,Sh⟩,?_⟩
   clear T8 L8 lI he;rintro m v0 v1 v2 v4 tg ⟨f,p,l,rfl,rfl,rfl,rfl,rfl,hp,hf,Kw,lI,T,L1,ke,gr,CX,CW⟩;rw[il T.hs,eG,bC];simp only[ou,al,bV,cq];refine⟨λ aN=>?_,λ kV=>?_⟩
   . have aN:p<s.length:=by omega
     have AT:s.drop p=s[p]::s.drop (p+1):=gM aN;cases f with
     | zero=>omega
     | succ f =>
     simp only[eR]at lI;rw[AT]at lI;simp only at lI;rw[il T.hs,eG,bC,CD];refine⟨by omega,?_⟩;rw[fW,getD_at aN];intro jj CS;have c32:((s[p].toNat:Int)=32)=(s[p].toNat=32):=by simp; omega
     have c10:((s[p].toNat:Int)=10)=(s[p].toNat=10):=by simp; omega
     have aio:((s[p].toNat:Int)=126)=(s[p].toNat=126):=by simp; omega
     have blank:s[p].toNat=32\/s[p].toNat=10->jj (.te o) (.box bs 0) (.box bd 0) (.int .i64 (p:Nat)) (.int .u8 s[p].toNat) (.bool true) tg:=λ h=>by
      refine CS _ _ _ _ _ _ _ ?_;rw[if_pos h]at lI;simp only[bH,dO];exact⟨bI (by omega) (by omega),_,by omega,f,p+1,l,rfl,rfl,rfl,rfl,by simp,by omega,by omega,Kw,lI,T,L1,ke,gr,CX,CW⟩
     have other:¬ (s[p].toNat=32\/s[p].toNat=10)->jj (.te o) (.box bs 0) (.box bd 0) (.int .i64 (p:Nat)) (.int .u8 s[p].toNat) (.bool false) tg:=λ h=>by
      refine CS _ _ _ _ _ _ _ ?_;rw[if_neg h]at lI;simp only[bq,bA,al,cq,aio];have after:∀ {ju:St} {L2:gm},L2={ L1 with state:=.ready,gL:=none }->L2.st .ready none=L/\L2.state=.ready/\L2.gL=none:=λ h=>by
       subst h; exact⟨by rw[<- gr]; rfl,rfl,rfl⟩
      refine⟨λ AP=>?_,λ AP=>?_⟩
      . rw[if_pos AP]at lI;rw[il T.hs,eG,bC];have hdn:((s.take s.length).drop p)=s[p]::s.drop (p+1):=by rw[tJ,AT]
        simp only[uv,oT,kU,wp_cond,al,fW,hdn];refine⟨⟨by omega,by omega,by omega⟩,?_⟩;obtain⟨y,z,aiA⟩:=WL (s[p]::s.drop (p+1)) (by rw[<- AT]; simp; omega);refine aiA.go ?_;have hlen:((s[p]::s.drop (p+1)).takeWhile λ c=>c.toNat≠10).length<=s.length-p:=by
         rw[<- AT]; exact Nat.le_trans (xx _).length_le (by simp)
        have ca:1<=((s[p]::s.drop (p+1)).takeWhile λ c=>c.toNat≠10).length/\((s[p]::s.drop (p+1)).takeWhile λ c=>c.toNat≠10)≠[]:=by
         rw[mV]; simp[AP]
        generalize ((s[p]::s.drop (p+1)).takeWhile λ c=>c.toNat≠10)=nt at *;simp only[bp,List.drop,bC];simp only[jz,zQ];refine Y _ _ _ L1 rfl ke gr ?_;refine⟨L1,ke,CX,?_⟩;have hnn:¬ nt=w_:=ca.2;simp only[xh,al,hnn,eS,fx,bH];refine⟨_,gy,?_⟩;simp only[bE,eT,al,dm,bq,ou,dO];refine⟨bI (by omega) (by omega),_,?_,f,p+nt.length,l,rfl,rfl,rfl,rfl,by simp,by omega,by omega,Kw,lI,(T.tL ke).tL gy,_,gy,?_⟩
        . omega
        . exact⟨by rw[<- gr]; rfl,rfl,rfl⟩
      . rw[if_neg AP]at lI;simp only[jz,zQ];refine Y _ _ _ L1 rfl ke gr ?_;refine⟨L1,ke,CX,?_⟩;have T2:=T.tL (L':={ L1 with state:=.busy }) ke
        have L2:(tg.set o (.loop { L1 with state:=.busy })).loop o=some { L1 with state:=.busy }:=gy
        generalize ahl:tg.set o (.loop { L1 with state:=.busy })=zS at *
        simp only[xh,al,dG,dm,bq];rw[il T2.h1,eG,bC];have hdn:((s.take s.length).drop p)=s[p]::s.drop (p+1):=by rw[tJ,AT]
        simp only[uv,oT,kU,wp_cond,al,fW,hdn];refine⟨⟨by omega,by omega,by omega⟩,?_⟩;refine (yT (s[p]::s.drop (p+1)) (by rw[<- AT]; simp; omega)).go ?_;cases p7:iK (s[p]::s.drop (p+1)) with
        | mk e kt =>
        obtain⟨k,tx⟩:=kt;rw[p7]at lI;simp only at lI;simp only[GP,bp,List.drop,bC];rw[cm];intro ln xm;have g11:(zS.new ln (.box [AV.int .u8 0,AV.str [],AV.int .i64 0])).box ln=some [AV.int .u8 0,AV.str [],AV.int .i64 0]:=aD;rw[cI g11];refine⟨⟨rfl,rfl,by simp⟩,?_⟩;have E12:=((cX.refl zS).new xm (x:=.box [AV.int .u8 0,AV.str [],AV.int .i64 0])).set (x:=.box (ay [AV.int .u8 0,AV.str [],AV.int .i64 0] 0 (av (.agg [.int .u8 (k:Nat),.str tx,.int .i64 0])))) xm.1;have m11:((zS.new ln (.box [AV.int .u8 0,AV.str [],AV.int .i64 0])).set ln (.box (ay [AV.int .u8 0,AV.str [],AV.int .i64 0] 0 (av (.agg [.int .u8 (k:Nat),.str tx,.int .i64 0]))))).box ln=some [.int .u8 (k:Nat),.str tx,.int .i64 0]:=by rw[aT]; rfl
        have n117:b7≠ln:=xm.bO (T2.h7.choose_spec.1);generalize (zS.new ln (.box [AV.int .u8 0,AV.str [],AV.int .i64 0])).set ln (.box (ay [AV.int .u8 0,AV.str [],AV.int .i64 0] 0 (av (.agg [.int .u8 (k:Nat),.str tx,.int .i64 0]))))=zT at *;have T3:=T2.J4 E12;have L3:=E12.loop L2;have agZ:∀ (b:Nat) (x:List AV),zS.box b=some x->b≠ln:=λ b x h=>xm.bO h;clear E12 g11 xm ahl;intro j hj;obtain⟨v,q1,q2,q3⟩:=T3.h7;have cont:∀ e':Int,(e'≠0->ix s=.bad p e')->(e'=0->l.length<900/\0<tx.length/\eR f s (p+tx.length) (l++[⟨k,tx,p⟩])=ix s)->(e'=0->e=0)->j (.box b2 0) (.box b3 0) (.box b4 0) (.box b7 0) (.int .i64 (p:Nat)) (.box ln 0) (.int .i64 e') zT:=by
         intro e' aiz Jf aeC;refine hj _ _ _ _ _ _ _ _ ?_
         by_cases mB:e'=0
         . obtain⟨akD,jV,EF⟩:=Jf mB;simp only[mB,c8,al,dG,dm,bq,bh,db];rw[cI m11];refine⟨⟨rfl,rfl,by simp⟩,?_⟩;have kp:∀ {b:Nat} {x:List AV},b≠ln->zT.box b=some x->(zT.set ln (.box (ay [.int .u8 (k:Nat),.str tx,.int .i64 0] 2 (av (.int .i64 (p:Nat)))))).box b=some x:=λ h1 h2=>by rw[aO h1]; exact h2
           rw[il (kp n117 q1),eG,bC];rw[ph aT];refine⟨by simp[ay],?_⟩;have q2':Grow (zT.set ln (.box (ay [.int .u8 (k:Nat),.str tx,.int .i64 0] 2 (av (.int .i64 (p:Nat)))))) v 51 3 l.length (gO l):=by
            rcases q2 with q2|⟨τ,r1,r2,r3⟩
            . exact .inl q2
            . exact .inr ⟨τ,r1,by rw[iL (fB m11 r2).symm]; exact r2,r3⟩
           have AH:∀ {b:Nat} {x:List AV},zT.box b=some x->b≠ln->(zT.set ln (.box (ay [.int .u8 (k:Nat),.str tx,.int .i64 0] 2 (av (.int .i64 (p:Nat)))))).box b=some x:=λ h1 h2=>kp h2 h1;have l11:(zT.set ln (.box (ay [.int .u8 (k:Nat),.str tx,.int .i64 0] 2 (av (.int .i64 (p:Nat)))))).loop o=some { L1 with state:=.busy }:=by
            rw[gU]; exact L3;rw[dW,if_neg (bY m11 L3).symm]
           have Kk:(List.take 3 (List.drop 0 (ay [.int .u8 (k:Nat),.str tx,.int .i64 0] 2 (av (.int .i64 (p:Nat))))))=jM ⟨k,tx,p⟩:=by simp[ay,jM]
           rw[Kk];generalize zT.set ln (.box (ay [.int .u8 (k:Nat),.str tx,.int .i64 0] 2 (av (.int .i64 (p:Nat)))))=akJ at *;rw[hZ];refine⟨by omega,?_⟩;rw[ff (o:=0) (s:=3) rfl];refine⟨⟨rfl,rfl,by simp[bT]⟩,?_⟩;rw[ja];refine⟨rfl,?_⟩;have q1':=AH q1 n117;refine FM (m:=1) (l2:=jM ⟨k,tx,p⟩) q2' rfl rfl (by omega) (by omega) (λ h=>q3 (rL.1 h)) λ GW v' g1 g2 g3=>?_;obtain⟨kb,kl⟩:=oO q2' g2;have EK:v'.dw=true/\av v'=[v']:=by
            rcases g1 with ⟨_,_,rfl⟩|⟨τ,rfl,_,_⟩<;>exact⟨rfl,rfl⟩
           rw[cI (kb q1')];refine⟨⟨EK.1,by rw[EK.2]; rfl,by simp⟩,?_⟩;have kk:∀ {b:Nat} {x:List AV},b7≠b->GW.box b=some x->(GW.set b7 (.box (ay [v] 0 (av v')))).box b=some x:=λ h1 h2=>by rw[aO h1.symm]; exact h2
           have lo:(GW.set b7 (.box (ay [v] 0 (av v')))).loop o=some { L1 with state:=.busy }:=by
            rw[gU]; exact kl l11;rw[dW,if_neg (bY (kb q1') (kl l11)).symm]
           have F2:∀ {b:Nat} {x:List AV},zS.box b=some x->b≠ln:=λ h=>agZ _ _ h;have T5:TI (GW.set b7 (.box (ay [v] 0 (av v')))) b1 b2 b3 b4 b7 bs bd s (l++[⟨k,tx,p⟩]):=by
            refine⟨kk n71 (kb (AH T3.h1 (F2 T2.h1))),?_,?_,?_,⟨v',by rw[aT,EK.2]; rfl,?_,λ h=>by simp at h⟩,kk n7s (kb (AH T3.hs (F2 T2.hs))),kk n7d (kb (AH T3.hd (F2 T2.hd)))⟩
            . obtain⟨x,hx⟩:=T2.h2; obtain⟨y,hy⟩:=T3.h2; exact⟨y,kk n72 (kb (AH hy (F2 hx)))⟩
            . obtain⟨x,hx⟩:=T2.h3; obtain⟨y,hy⟩:=T3.h3; exact⟨y,kk n73 (kb (AH hy (F2 hx)))⟩
            . obtain⟨x,hx⟩:=T2.h4; obtain⟨y,hy⟩:=T3.h4; exact⟨y,kk n74 (kb (AH hy (F2 hx)))⟩
            . have el:(l++[(⟨k,tx,p⟩:Tk)]).length=l.length+1:=by simp
              rw[el,Dh];rcases g1 with ⟨h0,_⟩|⟨τ,r1,r2,r3⟩
              . omega
              . exact .inr ⟨τ,r1,by rw[iL (fB (kb q1') r2).symm]; exact r2,r3⟩
           have yZ:∃ c,v'=.vec (l.length+1) c (gO (l++[⟨k,tx,p⟩])):=by
            rw[Dh];rcases g1 with ⟨h0,_⟩|⟨τ,r1,_,_⟩
            . omega
            . exact⟨_,r1⟩
           have h7':(GW.set b7 (.box (ay [v] 0 (av v')))).box b7=some [v']:=by rw[aT,EK.2]; rfl
           generalize GW.set b7 (.box (ay [v] 0 (av v')))=akc at *;refine⟨_,lo,?_⟩;have T6:=T5.tL (L':={ L1 with state:=.ready,gL:=none }) lo
           obtain⟨c,hc⟩:=yZ;subst hc;have aix:(akc.set o (.loop { L1 with state:=.ready,gL:=none })).box b7=some [.vec (l.length+1) c (gO (l++[⟨k,tx,p⟩]))]:=by rw[aO (bY h7' lo)]; exact h7'
           simp only[bE,eT,al,dm,bq];rw[il T6.hd,eG,bC];simp only[show fC K.P 75=true by kernel_rfl,if_true,mL,eH,dK];refine abf aix rfl Kw ?_;simp only[bE,dO];have nj:p+tx.length<=s.length:=by
            have:=(Cz (s:=s[p]::s.drop (p+1)) (k:=k) (t:=tx) (by rw[p7,aeC mB])).2.length_le;rw[<- AT]at this;simp at this;omega
           refine⟨bI (by omega) (by omega),_,?_,f,p+tx.length,l++[⟨k,tx,p⟩],rfl,rfl,rfl,rfl,by simp,nj,by omega,by simp; omega,EF,T6,_,gy,by rw[<- gr]; rfl,rfl,rfl⟩;omega
         . simp only[mB,c8,al,eS,fx,bH];refine st3 T3.h2 T3.h3 T3.h4 OB Ai Lj ⟨rfl,rfl⟩ λ ju m2 m3 m4 mo=>?_;have ob:∀ {b:Nat},(∃ x,zT.box b=some [x])->o≠b:=λ ⟨x,h⟩=>(bY h L3).symm;have L4:ju.loop o=some { L1 with state:=.busy }:=by rw[gU (mo o (ob T3.h2) (ob T3.h3) (ob T3.h4))]; exact L3
           refine⟨_,L4,?_⟩;simp only[bE,eT,al,fx,bH];refine aq.mk ⟨_,gy,by simp,?_⟩;have kp:∀ {b:Nat} {x:List AV},o≠b->ju.box b=some x->((ju.set o (.loop { L1 with state:=.done,gL:=some .ret })).del o).box b=some x:=λ h1 h2=>by rw[jl h1.symm,aO h1.symm]; exact h2
           refine fin _ _ _ _ (kp (ob T3.h2) m2) (kp (ob T3.h3) m3) (kp (ob T3.h4) m4) λ bR=>?_;rw[aiz mB]; rfl
        have hlen:cr (some false) v=.val (.int .i64 l.length):=by
         rcases q2 with ⟨h0,_,rfl⟩|⟨τ,rfl,_,_⟩
         . rw[h0]; rfl
         . rfl
        simp only[bA,al,bo,aP]
        by_cases wD:e=0
        . subst wD;simp only[dG,iY,cB,tH q1,eG,jE,nw,hlen,aJ,bA,aQ,if_true,al,cq];rw[if_neg (by simp)]at lI;refine⟨λ Xh=>?_,λ Xh=>?_⟩
          . rw[if_pos (by omega)]at lI;exact cont 5 (λ _=>lI.symm) (λ h=>by omega) (λ h=>by omega)
          . rw[if_neg (by omega)]at lI;have jV:=(Cz p7).1.1;exact cont 0 (λ h=>absurd rfl h) (λ _=>⟨by omega,List.length_pos_iff.2 jV,lI⟩) (λ _=>rfl)
        . simp only[wD,eS,show (false==true)=false from rfl,cN,aQ,bZ,if_false,al,bq];rw[if_pos wD]at lI;exact cont e (λ _=>lI.symm) (λ h=>absurd h wD) (λ h=>h)
     simp only[bA,al,cq,c32,c10];refine⟨λ h=>?_,λ h=>?_⟩
     . simp only[h,dG]; rw[h]at blank; exact blank (.inl rfl)
     . by_cases pM:s[p].toNat=10
       . simp only[pM,dG]; rw[pM]at blank; exact blank (.inr rfl)
       . simp only[pM,eS]; exact other (λ h1=>h1.elim h pM)
   . have hd0:s.drop p=[]:=List.drop_eq_nil_of_le (by omega);have EF:ix s=.ok l:=by
      rw[<- lI];cases f with
      | zero=>rfl
      | succ f=>simp only[eR]; rw[hd0]
     refine aq.mk ⟨L1,ke,by rw[CX]; simp,?_⟩;rw[CW];obtain⟨v,g1,g2,g3⟩:=T.h7;have dl:∀ {b:Nat} {x:List AV},tg.box b=some x->(tg.del o).box b=some x:=λ h=>by rw[jl (bY h ke)]; exact h
     have hv:v.dw=true/\av v=[v]:=by
      rcases g2 with ⟨_,_,rfl⟩|⟨τ,rfl,_,_⟩<;>exact⟨rfl,rfl⟩
     show (ak (some (false,1)) (.box b7 0) (tg.del o)).wp K (tg.del o) _ _;rw[il (dl g1),eG,bC];refine st3 (T.h2.imp λ _ h=>dl h) (T.h3.imp λ _ h=>dl h) (T.h4.imp λ _ h=>dl h) OB Ai Lj hv λ ju m2 m3 m4 _=>?_;refine fin ju _ _ _ m2 m3 m4 λ bR=>?_;rw[EF];show AV.aK [resolve 4 bR v,.int .i64 0,.int .i64 0]=_;rw[LM 2 g2 g3];rfl
 . simp only[he,eS,fx,bH];rw[if_pos he]at lI;refine st3 ⟨_,k2⟩ ⟨_,k3⟩ ⟨_,k4⟩ OB Ai Lj ⟨rfl,rfl⟩ λ du m2 m3 m4 _=>?_;exact fin du _ _ _ m2 m3 m4 λ ju=>by rw[lI]; rfl
end Go.Rip
