/- Lemmas for the proof: no conditions. -/
import Derived.Test.YtnfpmiiopiinbaaGreatDoorRipZz
import Derived.Test.YtnfpmiiopiinbaaGreatDoorRipN
import Derived.Test.YtnfpmiiopiinbaaGreatDoorRipE
import Derived.Test.YtnfpmiiopiinbaaGreatDoorRipF
set_option linter.unusedVariables false
set_option linter.unusedSimpArgs false
set_option linter.loopingSimpArgs false
namespace Go.Rip
open Go.Proofs Go.RowKit
def cls (c:Int):Int:=if c=32\/c=10 then 1 else if c<32\/c > 126 then 0 else if 48<=c/\c<=57 then 2 else if 97<=c/\c<=122 then 3 else if 65<=c/\c<=90 then 4 else 5
theorem D0 (c:Int):Pure K 216 [.int .u8 c] (.int .i64 (cls c)):=by
 intro U R hR;refine NQ ?_;simp (contextual:=true) only[NP,AE,yJ,bw,bX,lB,eX,iN,ak,bj,aP,mN,cn,cz,aD,aO,jq,W1,bJ,a8,aW,dq,dz,ite_true,ite_false,beq_true,beq_false,cT,dZ,dJ,if_true,if_false,true_and,and_true,not_true,not_false_iff]
 repeat' (first|refine And.intro ?_ ?_|intro _)
 all_goals (refine aq.eq hR ?_; simp only[cls,AV.int.injEq,true_and])
 all_goals grind
def EO (l:List Int) (s:Int):Int:=match l.findIdx? (·=s) with|some i=>i|none=>-1
theorem Gy (c:kf) (l:List Int) (s:Int) (hn:l.length<=100000):Pure K 246 [.vec l.length c (l.map (.int .i64)),.int .i64 s] (.int .i64 (EO l s)):=by
 intro U R hR;refine N1 ?_;simp only[N0,qN,ak];refine⟨λ m v0 v1 v7 v8 ad=>∃ i:Nat,m=l.length-i/\i<=l.length/\v0=.vec l.length c (l.map (.int .i64))/\v1=.int .i64 s/\v7=.int .i64 l.length/\v8=.int .i64 i/\ad=U/\∀ j,j<i->l[j]?≠some s,⟨l.length,0,by simp[Fn.app]⟩,?_⟩;intro m v0 v1 v7 v8 ad hI;obtain⟨i,rfl,hi,rfl,rfl,rfl,rfl,rfl,fL⟩:=hI;simp only[bX,ak,bJ];refine⟨λ aL=>?_,λ jW=>?_⟩
 . have aL:i<l.length:=by omega
   have hd:(l.map (AV.int .i64)).drop (i*1)=.int .i64 l[i]::(l.map (AV.int .i64)).drop (i+1):=by
    rw[Nat.mul_one,iq (by simpa using aL)]; simp
   simp only[vG,wp_cond,ak,iJ,hd,sj,dj,bw,bJ];refine⟨by omega,λ he=>?_,λ cv=>?_⟩
   . refine aq.eq hR ?_;have:l.findIdx? (·=s)=some i:=by
      rw[Fx];refine⟨aL,by simp[he],λ j hj=>?_⟩;have:=fL j hj;rw[nq (by omega)]at this;simpa using this
     simp[EO,this]
   . simp only[jN,fx,wp_cond,ak];refine⟨bD (by omega) (by omega),?_⟩;refine⟨l.length-(i+1),by omega,i+1,rfl,by omega,rfl,rfl,rfl,by simp,rfl,λ j hj=>?_⟩;rcases gI j i with h|h
     . exact fL j h
     . have:j=i:=by omega
       subst this;rw[nq aL]; simpa using λ h=>cv h.symm
 . refine aq.eq hR ?_;have:l.findIdx? (·=s)=none:=by
    rw[List.findIdx?_eq_none_iff];intro x hx;obtain⟨j,hj,rfl⟩:=List.getElem_of_mem hx;have:=fL j (by omega);rw[nq hj]at this;simpa using this
   simp[EO,this]
theorem Gw (l:List Int) (s:Int):decide (0<=EO l s)=decide (s∈l):=by
 unfold EO;split
 . rename_i j hj;obtain⟨h1,h2,_⟩:=Fx.1 hj;have:s∈l:=by have:=of_decide_eq_true h2; exact this▸List.getElem_mem h1
   simp[this]
 . rename_i hj;rw[List.findIdx?_eq_none_iff]at hj;have:s∉l:=λ hm=>by simpa using hj s hm
   simp[this]
theorem uG (c:Int) (cp:kf) (l:List Int) (hn:l.length<=100000):Pure K 151 [.int .u8 c,.vec l.length cp (l.map (.int .i64))] (.bool (decide (cls c∈l))):=by
 intro U R hR;refine M0 ?_;refine (D0 c).go ?_;refine NO ?_;refine (Gy cp l (cls c) hn).go ?_;simp only[iN,ak,Gw];exact aq.mk (aq.mk hR)
theorem Cv (c:UInt8):decide (cls c.toNat∈[2])=gD c:=by
 unfold cls gD;rw[oP];simp only[lN,dJ]
 grind
theorem Lr (c:UInt8):decide (cls c.toNat∈[3])=oH c:=by
 unfold cls oH;rw[oP];simp only[lN,dJ]
 grind
theorem Ln (c:UInt8):decide (cls c.toNat∈[2,3,4])=eh c:=by
 unfold cls eh gD oH Jm;rw[oP];simp only[fe,List.not_mem_nil,or_false,dJ,gX]
 grind
theorem Lp (c:UInt8):(!decide (cls c.toNat∈[0]))=oG c:=by
 unfold cls oG;rw[oP];simp only[lN,dJ,Bool.not_eq_true',decide_eq_false_iff_not]
 grind
theorem Gz (c:UInt8):Pure K 146 [.int .u8 c.toNat] (.bool (oG c)):=by
 intro U R hR;refine MS ?_;unfold MR;rw[fw];refine⟨by omega,?_⟩;rw[dQ (o:=0) (s:=1) rfl];refine⟨⟨rfl,rfl,by simp[bN]⟩,?_⟩;rw[gw];refine⟨rfl,?_⟩;refine (uG c.toNat .full [0] (by simp)).go ?_;simp only[dr,ak,Lp];exact aq.mk hR
theorem getD_at {s:aT} {i:Nat} (h:i<s.length):s.getD i 0=s[i]:=by simp[BK,h]
theorem OS (s:aT):Pure K 74 [.str s] (.aQ [.int .i64 (qS s).1,.int .i64 (qS s).2]):=by
 intro U R hR;refine Qd ?_;unfold R8;simp only[iX,ak,eX,bJ];unfold qS at hR;refine⟨λ h=>?_,λ h=>?_⟩
 . rw[if_pos (by omega)]at hR;exact aq.mk hR
 . rw[if_neg (by omega)]at hR;refine⟨λ m v0 v9 v10 ad=>∃ i:Nat,m=s.length-i/\i<=s.length/\v0=.str s/\v9=.int .i64 s.length/\v10=.int .i64 i/\ad=U/\∀ j (hj:j<s.length),j<i->oG s[j]=true,⟨s.length,0,by simp[Fn.app]⟩,?_⟩;rintro m v0 v9 v10 ad ⟨i,rfl,hi,rfl,rfl,rfl,rfl,b0⟩;simp only[bX,ak,bJ];refine⟨λ aL=>?_,λ jW=>?_⟩
   . have aL:i<s.length:=by omega
     rw[A6];refine⟨by omega,?_⟩;rw[iJ,getD_at aL];refine (Gz s[i]).go ?_;simp only[dr,ak];cases hb:oG s[i] with
     | false =>
       simp only[dZ,a8];have:s.findIdx? (λ c=>!oG c)=some i:=by
        rw[Fx];exact⟨aL,by simp[hb],λ j hj=>by simp[b0 j (by omega) hj]⟩
       rw[this]at hR;exact aq.mk hR
     | true =>
       simp only[cT,aW,dm];refine⟨bD (by omega) (by omega),s.length-(i+1),by omega,i+1,rfl,by omega,rfl,rfl,by simp,rfl,λ j hj wq=>?_⟩;rcases gI j i with h|h
       . exact b0 j hj h
       . have:j=i:=by omega
         subst this; exact hb
   . have:s.findIdx? (λ c=>!oG c)=none:=by
      rw[List.findIdx?_eq_none_iff];intro x hx;obtain⟨j,hj,rfl⟩:=List.getElem_of_mem hx;simp[b0 j hj (by omega)]
     rw[this]at hR;exact aq.mk hR
theorem vJ {p:UInt8->Bool}:∀ {l:aT},(∀ x∈l,p x=true)->l.takeWhile p=l
 | [],_=>rfl
 | c::l,h=>by rw[mj,h c (by simp)]; simp[vJ (l:=l) λ x hx=>h x (by simp[hx])]
theorem run_pure (s:aT) (hs:s.length<=100000):Pure K 149 [.str s] (.int .i64 (s.takeWhile eh).length):=by
 intro U R hR;refine MX ?_;unfold MW;refine⟨λ m v0 v2 ad=>∃ i:Nat,m=s.length-i/\i<=s.length/\v0=.str s/\v2=.int .i64 i/\ad=U/\∀ j (hj:j<s.length),j<i->eh s[j]=true,⟨s.length,0,by simp[Fn.app]⟩,?_⟩;rintro m v0 v2 ad ⟨i,rfl,hi,rfl,rfl,rfl,b0⟩;have sP:(s.take i).takeWhile eh=s.take i:=by
  refine vJ λ x hx=>?_;obtain⟨j,hj,rfl⟩:=List.getElem_of_mem hx;simp only[List.length_take]at hj;rw[List.getElem_take];exact b0 j (by omega) (by omega)
 have HC:s.takeWhile eh=s.take i++(s.drop i).takeWhile eh:=by
  conv=>lhs; rw[<- List.take_append_drop i s]
  rw[List.takeWhile_append,sP];simp
 simp only[iX,ak,bX,bj,aP]
 by_cases aL:i<s.length
 . have qj:(i:Int)<s.length:=by omega
   simp only[qj,dq,ib,cn,aD,JO,jq,iJ,getD_at aL];refine⟨by simp,?_⟩;rw[zk];refine⟨by omega,?_⟩;rw[wY (o:=0) (s:=1) rfl];refine⟨⟨rfl,rfl,by simp[bN]⟩,?_⟩;rw[wY (o:=1) (s:=1) rfl];refine⟨⟨rfl,rfl,by simp[bN,ax]⟩,?_⟩;rw[wY (o:=2) (s:=1) rfl];refine⟨⟨rfl,rfl,by simp[bN,ax]⟩,?_⟩;rw[BI];refine⟨rfl,_,uG s[i].toNat .full [2,3,4] (by simp),?_⟩;rw[Ln];simp only[aO,if_true,ak];have hd:s.drop i=s[i]::s.drop (i+1):=iq aL;cases hb:eh s[i] with
   | true =>
     simp only[a8,dm];refine⟨bD (by omega) (by omega),s.length-(i+1),by omega,i+1,rfl,by omega,rfl,by simp,rfl,λ j hj wq=>?_⟩;rcases gI j i with h|h
     . exact b0 j hj h
     . have:j=i:=by omega
       subst this; exact hb
   | false =>
     simp only[aW];refine aq.eq hR ?_;rw[HC,hd,mj,hb];simp;omega
 . have qj:¬ (i:Int)<s.length:=by omega
   simp only[qj,dz,show (false==true)=false from rfl,cz,aO,bQ,if_false,ak,aW];refine aq.eq hR ?_;rw[HC,List.drop_eq_nil_of_le (by omega)];simp; omega
end Go.Rip
namespace Go.Rip
open Go.Proofs Go.RowKit
theorem LS {s:aT} {i:Nat} (h:i<s.length):iI 0 (s.take (i+1))=min (10*iI 0 (s.take i)+((s[i].toNat:Int)-48)) 1000001:=by
 have:s.take (i+1)=s.take i++[s[i]]:=by rw[zm,nq h]; rfl
 rw[this];unfold iI;rw[List.foldl_append];rfl
theorem GJ (s:aT) (hs:s.length<=100000):Pure K 152 [.str s] (.int .i64 (nU s)):=by
 intro U R hR;refine M5 ?_;unfold M4;simp only[iX,ak];refine⟨λ m v0 v3 v6 v7 ad=>∃ i:Nat,m=s.length-i/\i<=s.length/\v0=.str s/\v3=.int .i64 (iI 0 (s.take i))/\v6=.int .i64 s.length/\v7=.int .i64 i/\ad=U/\(s.take i).all gD=true,⟨s.length,0,by simp[Fn.app,iI]⟩,?_⟩;rintro m v0 v3 v6 v7 ad ⟨i,rfl,hi,rfl,rfl,rfl,rfl,rfl,b0⟩;have hb:=HT (s.take i) 0 (by omega);have hb0:=tK (s.take i) 0 b0 (by omega);simp only[bX,ak,bJ];refine⟨λ aL=>?_,λ jW=>?_⟩
 . have aL:i<s.length:=by omega
   rw[A6];refine⟨by omega,?_⟩;rw[iJ,getD_at aL,fw];refine⟨by omega,?_⟩;rw[dQ (o:=0) (s:=1) rfl];refine⟨⟨rfl,rfl,by simp[bN]⟩,?_⟩;rw[gw];refine⟨rfl,?_⟩;refine (uG s[i].toNat .full [2] (by simp)).go ?_;rw[Cv];simp only[dr,ak];have fz:s.take (i+1)=s.take i++[s[i]]:=by rw[zm,nq aL]; rfl
   cases hd:gD s[i] with
   | false =>
     simp only[dZ,a8];refine aq.eq hR ?_;have:s.all gD=false:=by
      rw[Bool.eq_false_iff];intro h;rw[eH]at h;rw[h s[i] (List.getElem_mem aL)]at hd;cases hd
     simp[nU,this]
   | true =>
     have hc:=mc.1 hd;simp only[cT,aW,Zi];refine⟨bD (by omega) (by omega),?_⟩;rw[A6];refine⟨by omega,?_⟩;rw[iJ,getD_at aL];have hw:IntKind.u8.wrap ((s[i].toNat:Int)-48)=(s[i].toNat:Int)-48:=by
      show ((s[i].toNat:Int)-48)%256=_;omega
     simp only[jP,ON,ak,hw,Dm,wp_cond,dm,Td];refine⟨bD (by omega) (by omega),bD (by omega) (by omega),bD (by omega) (by omega),?_⟩;refine⟨s.length-(i+1),by omega,i+1,rfl,by omega,rfl,?_,rfl,by simp,rfl,?_⟩
     . rw[LS aL];congr 1;omega
     . rw[fz,List.all_append,b0]; simp[hd]
 . have hi:i=s.length:=by omega
   subst hi;rw[xg]at b0 hb hb0 ⊢;have hv:Fi s=iI 0 s:=rfl;simp only[iX,ak,eX,bj,aP]
   by_cases h1:1<s.length
   . have Eg:(1:Int)<s.length:=by omega
     simp only[Eg,dq,ib,cn,aD,JO,jq,bw,aO,if_true,ak,bJ];have h0:s.getD (0:Int).toNat 0=s[0]:=getD_at (by omega);rw[h0];have hh:s.head?=some s[0]:=by
      cases s with
      | nil=>simp at h1
      | cons c r=>rfl
     refine⟨⟨by omega,by omega⟩,λ KM=>?_,λ KM=>⟨λ hm=>?_,λ hm=>?_⟩⟩
     . refine aq.eq hR ?_;have e48:s[0].toNat=(48:UInt8).toNat:=by show s[0].toNat=48; omega
       have:s[0]=48:=UInt8.toNat_inj.1 e48;simp[nU,b0,h1,hh,this]
     . refine aq.eq hR ?_;have:¬ s[0]=48:=λ e=>KM (by rw[e]; rfl);simp[nU,b0,hh,this,hv,hm]
     . refine aq.eq hR ?_;have:¬ s[0]=48:=λ e=>KM (by rw[e]; rfl);simp[nU,b0,hh,this,hv,hm]
   . have Eg:¬ (1:Int)<s.length:=by omega
     simp only[Eg,dz,show (false==true)=false from rfl,cz,aO,bQ,if_false,ak,aW,bJ];refine⟨λ hm=>?_,λ hm=>?_⟩
     . refine aq.eq hR ?_;simp[nU,b0,h1,hv,hm]
     . refine aq.eq hR ?_;simp[nU,b0,h1,hv,hm]
theorem tp (s p:aT):Pure K 213 [.str s,.str p] (.bool (p.isPrefixOf s)) :=
 Pure.zg (vs:=[.string ⟨s.toArray⟩,.string ⟨p.toArray⟩]) (v:=.bool (p.isPrefixOf s)) (λ g us h=>by
  simp only[aC,av]at h;obtain⟨_,_,rfl,rfl,_,_,rfl,rfl,rfl⟩:=h; rfl) (λ g=>by simp only[av]) λ w=>Tryz.strings_HasPrefix ⟨s.toArray⟩ ⟨p.toArray⟩ w
theorem u6 (s:aT):(rL.find? λ x=>x.isPrefixOf s)=if cJ.isPrefixOf s then some cJ else if gJ.isPrefixOf s then some gJ else match s with
 | []=>none
 | c::_=>if c∈da then some [c] else none:=by
 cases s with
 | nil=>rfl
 | cons c r =>
   by_cases h1:cJ.isPrefixOf (c::r)=true
   . simp only[rL,List.find?_cons,h1,if_true]
   . by_cases h2:gJ.isPrefixOf (c::r)=true
     . simp only[rL,List.find?_cons,h1,h2,if_true,bQ,if_false]
     . simp only[rL,List.find?_cons,h1,h2,bQ,if_false];have e:∀ x:UInt8,[x].isPrefixOf (c::r)=(x==c):=λ x=>by simp[List.isPrefixOf]
       simp only[show pM=[61] from rfl,show ye=[60] from rfl,show yc=[43] from rfl,show yd=[45] from rfl,show yb=[42] from rfl,show qI=[33] from rfl,show jx=[40] from rfl,show gE=[41] from rfl,show yf=[123] from rfl,show DG=[125] from rfl,show AY=[44] from rfl,show j9=[59] from rfl,show mQ=[58] from rfl,show DF=[46] from rfl,e]
       by_cases hc:c∈da
       . rw[if_pos hc];simp only[da,fe,List.not_mem_nil,or_false]at hc;rcases hc with rfl|rfl|rfl|rfl|rfl|rfl|rfl|rfl|rfl|rfl|rfl|rfl|rfl|rfl<;>rfl
       . rw[if_neg hc];simp only[da,fe,List.not_mem_nil,or_false,not_or]at hc;have f:∀ x:UInt8,¬ c=x->(x==c)=false:=λ x h=>by simp[Ne.symm h]
         simp only[f _ hc.1,f _ hc.2.1,f _ hc.2.2.1,f _ hc.2.2.2.1,f _ hc.2.2.2.2.1,f _ hc.2.2.2.2.2.1,f _ hc.2.2.2.2.2.2.1,f _ hc.2.2.2.2.2.2.2.1,f _ hc.2.2.2.2.2.2.2.2.1,f _ hc.2.2.2.2.2.2.2.2.2.1,f _ hc.2.2.2.2.2.2.2.2.2.2.1,f _ hc.2.2.2.2.2.2.2.2.2.2.2.1,f _ hc.2.2.2.2.2.2.2.2.2.2.2.2.1,f _ hc.2.2.2.2.2.2.2.2.2.2.2.2.2,List.find?_nil]
theorem EP (l:List UInt8) (c:UInt8):decide (Lib.indexByte l c<0)=!decide (c∈l):=by
 induction l with
 | nil=>simp[Lib.indexByte]
 | cons b l ih =>
   have hg:=Lib.indexByte_ge l c;unfold Lib.indexByte
   by_cases h:b=c
   . subst h; simp
   . have hc:¬ c=b:=λ e=>h e.symm;have h':(b==c)=false:=by simp[h]
     rw[h']
     by_cases hm:c∈l
     . simp only[hm,dq,cT,decide_eq_false_iff_not]at ih;have h2:(Lib.indexByte l c==-1)=false:=by simp; omega
       simp[h2,hm]; omega
     . simp only[hm,dz,dZ,dJ]at ih;have h2:(Lib.indexByte l c==-1)=true:=by simp; omega
       simp[h2,hm,hc]
def xo (s:aT):Int×Nat×aT:=match rL.find? λ x=>x.isPrefixOf s with|some x=>(0,4,x)|none=>(4,0,[])
def JY (p:Int×Nat×aT):AV:=.aQ [.agg [.int .u8 p.2.1,.str p.2.2,.int .i64 0],.int .i64 p.1]
theorem Ob (s:aT) (hs:s.length<=100000):Pure K 150 [.str s] (JY (xo s)):=by
 refine Pure.of rfl rfl (λ U=>rfl) λ R hR=>?_;refine MZ ?_;unfold MY;rw[cK];intro b hb;generalize nD:(bK _).new b _=U;have hb1:U.box b=some [AV.int .u8 0,AV.str [],AV.int .i64 0]:=by rw[<- nD]; exact aI
 clear nD hb;have QR:∀ {K':AV->St->Prop} {Kp:AV->St->Prop} {z:List AV} {ps:List (Nat×AV)} {U:St},(cX none (some z) (some (2,9,1)) ps).wp K U K' Kp=(eS (λ i=>some (i*1,1)) ps z λ z=>.val (.agg z)).wp K U K' Kp:=rfl;rw[QR,dQ (o:=0) (s:=1) rfl];refine⟨⟨rfl,rfl,by simp⟩,?_⟩;rw[dQ (o:=1) (s:=1) rfl];refine⟨⟨rfl,rfl,by simp[ax]⟩,?_⟩;rw[TG];have fin:∀ (k:Nat) (x:aT) (e:Int) (ps:List (Nat×AV)) (ad:St),ad.box b=some [AV.int .u8 0,AV.str [],AV.int .i64 0]->uj [(0,1),(1,1),(2,1)] ps [AV.int .u8 0,AV.str [],AV.int .i64 0]=some [.int .u8 k,.str x,.int .i64 0]->xo s=(e,k,x) ->
  (cX (some [(0,1),(1,1),(2,1)]) (some [AV.int .u8 0,AV.str [],AV.int .i64 0]) none ps).wp K ad (λ v U=>(aG (some (true,3)) (.box b 0) v U).wp K U (λ _ U=>bE (some (true,3)) (.box b 0) U λ r0=>aq R (.aQ [r0,.int .i64 e]) U) (aa R)) (aa R):=by
  intro k x e ps ad dR h1 h2;refine kj _ h1 ?_;rw[cL dR];refine⟨⟨rfl,rfl,by simp⟩,?_⟩;rw[oR aX];refine⟨by simp[ax],?_⟩;rw[h2]at hR;exact aq.eq (hR _) rfl
 refine⟨λ m v0 v2 v6 v7 ad=>∃ i:Nat,m=2-i/\i<=2/\v0=.str s/\v2=.box b 0/\v6=.agg [.str cJ,.str gJ]/\v7=.int .i64 i/\ad.box b=some [AV.int .u8 0,AV.str [],AV.int .i64 0]/\(0<i->cJ.isPrefixOf s=false)/\(1<i->gJ.isPrefixOf s=false),
  ⟨2,0,rfl,by omega,rfl,rfl,rfl,rfl,hb1,by simp,by simp⟩,?_⟩
 rintro m v0 v2 v6 v7 ad ⟨i,rfl,hi,rfl,rfl,rfl,rfl,dR,Ae,hn1⟩;simp only[bX,ak,bJ];refine⟨λ aL=>?_,λ jW=>?_⟩
 . have aL:i<2:=by omega
   obtain rfl|rfl:i=0\/i=1:=by omega
   . simp only[gk,wp_cond];refine⟨by omega,?_⟩;simp only[show ((0:Nat):Int).toNat*1=0 from rfl,List.drop,fV,ak];refine (tp s cJ).go ?_;cases hp:cJ.isPrefixOf s with
     | true =>
       simp only[a8];refine fin 4 cJ 0 _ ad dR rfl ?_;simp[xo,u6,hp]
     | false =>
       simp only[aW,dm];exact⟨bD (by omega) (by omega),1,by omega,1,rfl,by omega,rfl,rfl,rfl,rfl,dR,λ _=>by first|exact hp|trivial,by simp⟩
   . simp only[gk,wp_cond];refine⟨by omega,?_⟩;simp only[show ((1:Nat):Int).toNat*1=1 from rfl,List.drop,fV,ak];refine (tp s gJ).go ?_;cases hp:gJ.isPrefixOf s with
     | true =>
       simp only[a8];refine fin 4 gJ 0 _ ad dR rfl ?_;simp[xo,u6,hp,Ae (by omega)]
     | false =>
       simp only[aW,dm];exact⟨bD (by omega) (by omega),0,by omega,2,rfl,by omega,rfl,rfl,rfl,rfl,dR,λ _=>Ae (by omega),λ _=>by first|exact hp|trivial⟩
 . have hi2:i=2:=by omega
   subst hi2;have p0:=Ae (by omega);have p1:=hn1 (by omega);simp only[jO,ak,bj,aP];cases s with
   | nil =>
     simp only[show w_=([]:List UInt8) from rfl,dq,show (true==false)=false from rfl,cz,aO,if_true,ak,a8];exact fin 0 [] 4 _ ad dR rfl rfl
   | cons c r =>
     have cv:¬ (c::r=w_):=by simp[show w_=([]:List UInt8) from rfl]
     simp only[cv,dz,ib,cn,aD,JO,jq,aO,bQ,if_false,ak];refine⟨by simp,_,tF da c.toNat,?_⟩;simp only[bX,aD,aO,bQ,if_false,ak];have hcc:((c.toNat:Int).toNat).toUInt8=c:=by simp
     rw[hcc,EP];cases hm:decide (c∈da) with
     | false =>
       have K6:¬ c∈da:=by simpa using hm
       simp only[dZ,a8];refine fin 0 [] 4 _ ad dR rfl ?_;simp[xo,u6,p0,p1,K6]
     | true =>
       have K6:c∈da:=by simpa using hm
       simp only[cT,aW,p5,kQ,l8,wp_cond,ak];refine⟨⟨by omega,by omega,by simp; omega⟩,?_⟩;refine fin 4 [c] 0 _ ad dR rfl ?_;simp[xo,u6,p0,p1,K6]
end Go.Rip
namespace Go.Rip
open Go.Proofs Go.RowKit
theorem E6 (s:aT):∀ l:List aT,kX .s (.str s) (.bool false) false (l.map .str) (l.map λ _=>.bool true)=.val (.bool (decide (s∈l)))
 | []=>by simp[kX]
 | x::l=>by
   simp only[dY,kX,fE]
   by_cases h:s=x
   . subst h; simp
   . rw[show (s==x)=false by simp[h]];have:=E6 s l;simp only[bQ,if_false,this];simp[h]
theorem OD:Ba=.eD (ph.map .str) (ph.map λ _=>.bool true):=rfl
theorem Kd (s:aT) (U:St):fB (some (.s,4)) (some (AV.bool false)) Ba (.str s) false U=.val (.bool (decide (s∈ph))):=by
 rw[OD];simp only[fB,kS,oI];exact E6 s ph
theorem IL (s:aT) (hs:s.length<=100000):Pure K 77 [.str s] (JY (fg s)):=by
 refine Pure.of rfl rfl (λ U=>rfl) λ R hR=>?_;refine Qg ?_;unfold Sb;rw[cK];intro b hb;generalize nD:(bK _).new b _=U;have hb1:U.box b=some [AV.int .u8 0,AV.str [],AV.int .i64 0]:=by rw[<- nD]; exact aI
 clear nD hb;refine (run_pure s hs).go ?_;have sP:s.take (s.takeWhile eh).length=s.takeWhile eh:=by
  have:=Fw eh (l:=s);exact (List.prefix_iff_eq_take.1 this).symm
 have hle:(s.takeWhile eh).length<=s.length:=(Fw eh).length_le;simp only[p5,kQ,l8,wp_cond,ak,iJ,sP,show (0:Int).toNat=0 from rfl,dN,jO,bJ];refine⟨⟨by omega,by omega,by omega⟩,λ h0=>?_,λ h0=>?_⟩
 . have h0:s.takeWhile eh=[]:=h0;refine (Ob s hs).go ?_;simp only[JY,bh,List.drop,bl];rw[cL hb1];refine⟨⟨rfl,rfl,by simp⟩,?_⟩;rw[oR aX];refine⟨by simp[ax],aq.eq (hR _) ?_⟩;have:fg s=xo s:=by unfold fg xo; rw[h0]; rfl
   rw[this]; rfl
 . cases hw:s.takeWhile eh with
   | nil=>exact absurd hw h0
   | cons c r =>
     have hlw:(c::r).length<=s.length:=by rw[<- hw]; exact hle
     have ht:fg s=if gD c then (nU (c::r),2,c::r) else if oH c=false then (4,0,[]) else if (c::r)∈ph then (0,3,c::r) else if 12<(c::r).length then (4,0,[]) else (0,1,c::r):=by
      unfold fg; rw[hw]
     have fin:∀ (k:Nat) (x:aT) (e:Int) (zs:List AV) (ad:St),zs=[.int .u8 k,.str x,.int .i64 0]->ad.box b=some [AV.int .u8 0,AV.str [],AV.int .i64 0]->fg s=(e,k,x) ->
      (aG (some (true,3)) (.box b 0) (.agg zs) ad).wp K ad (λ _ U=>bE (some (true,3)) (.box b 0) U λ r0=>aq R (.aQ [r0,.int .i64 e]) U) (aa R):=by
      intro k x e zs ad hz dR h2;subst hz;rw[cL dR];refine⟨⟨rfl,rfl,by simp⟩,?_⟩;rw[oR aX];refine⟨by simp[ax],?_⟩;rw[h2]at hR;exact aq.eq (hR _) rfl
     have one:∀ (cl:Int) (K':AV->St->Prop) (ad:St),K' (.bool (decide (cls c.toNat∈[cl]))) ad ->
      (gk true none none (.str (c::r)) (.int .i64 0)).wp K ad (λ cC U=>(aF (some (178,1)) (some [AV.int .i64 0]) 1 false [(0,(AV.int .i64 cl))]).wp K U (λ dt U=>ae K 151 [cC,dt] U (aj K' (aa R))) (aa R)) (aa R):=by
      intro cl K' ad h;rw[A6];refine⟨⟨by omega,by simp⟩,?_⟩;rw[fw];refine⟨by omega,?_⟩;rw[dQ (o:=0) (s:=1) rfl];refine⟨⟨rfl,rfl,by simp[bN]⟩,?_⟩;rw[gw];refine⟨rfl,?_⟩;exact (uG c.toNat .full [cl] (by simp)).go h
     refine one 2 _ _ ?_;rw[Cv];cases hd:gD c with
     | true =>
       simp only[a8];refine kj [.int .u8 2,.str (c::r),.int .i64 0] rfl ?_;refine (GJ (c::r) (by omega)).go ?_;exact fin 2 (c::r) _ _ _ rfl hb1 (by rw[ht,if_pos hd])
     | false =>
       simp only[aW];refine one 3 _ _ ?_;rw[Lr];simp only[dr,ak];have vy:¬ (gD c=true):=by rw[hd]; simp
       cases mW:oH c with
       | false =>
         simp only[dZ,a8];refine kj [.int .u8 0,.str [],.int .i64 0] rfl ?_;exact fin 0 [] _ _ _ rfl hb1 (by rw[ht,if_neg vy,if_pos mW])
       | true =>
         have dK:¬ (oH c=false):=by rw[mW]; simp
         simp only[cT,aW];refine Bc.go ?_;simp only[Kd,ak,bJ,iX,eX];refine⟨λ hk=>?_,λ hk=>⟨λ hl=>?_,λ hl=>?_⟩⟩
         . refine kj [.int .u8 3,.str (c::r),.int .i64 0] rfl ?_;exact fin 3 (c::r) _ _ _ rfl hb1 (by rw[ht,if_neg vy,if_neg dK,if_pos hk])
         . refine kj [.int .u8 0,.str [],.int .i64 0] rfl ?_;exact fin 0 [] _ _ _ rfl hb1 (by rw[ht,if_neg vy,if_neg dK,if_neg hk,if_pos (by omega)])
         . refine kj [.int .u8 1,.str (c::r),.int .i64 0] rfl ?_;exact fin 1 (c::r) _ _ _ rfl hb1 (by rw[ht,if_neg vy,if_neg dK,if_neg hk,if_neg (by omega)])
end Go.Rip
namespace Go.Rip
open Go.Proofs Go.RowKit
theorem AN (u:aT):(Lib.indexByte u 10=-1/\u.takeWhile (λ c=>c.toNat≠10)=u)\/∃ k:Nat,Lib.indexByte u 10=k/\k<u.length/\u.takeWhile (λ c=>c.toNat≠10)=u.take k:=by
 have jy:∀ c:UInt8,c.toNat=10↔c=10:=λ c=>⟨λ h=>UInt8.toNat_inj.1 h,λ h=>by rw[h]; rfl⟩
 induction u with
 | nil=>left; exact⟨rfl,rfl⟩
 | cons b u ih =>
   unfold Lib.indexByte
   by_cases hb:b=10
   . right;refine⟨0,by simp[hb],by simp,?_⟩;rw[mj];simp[(jy b).2 hb]
   . have dR:(b==10)=false:=by simp[hb]
     have hn:(decide (b.toNat≠10))=true:=by simp[jy,hb]
     rw[mj,hn];rcases ih with ⟨h1,h2⟩|⟨k,h1,h2,h3⟩
     . left; rw[h1,h2]; simp[dR]
     . right;refine⟨k+1,?_,by simp; omega,?_⟩
       . rw[h1,dR];have:((k:Int)==-1)=false:=by simp
         simp[this]
       . simp only[if_true,List.take_succ_cons,h3]
theorem OT (u:aT) (hu:u.length<=100000):∃ y z,Pure K 148 [.str u,.str pL] (.aQ [.str (u.takeWhile λ c=>c.toNat≠10),y,z]):=by
 have go:∀ x y z,Pure K 212 [.str u,.str pL] (.aQ [x,y,z])->Pure K 148 [.str u,.str pL] (.aQ [x,y,z]):=λ x y z h U R hR=>by
  refine MV ?_;refine h.go ?_;simp only[bh,List.drop,bl];exact aq.mk hR
 have hi:=tG u 10;rcases AN u with ⟨h1,h2⟩|⟨k,h1,h2,h3⟩
 . refine⟨_,_,go _ (.str w_) (.bool false) λ U R hR=>?_⟩;refine CW ?_;refine hi.go ?_;rw[h1];simp only[iN,ak,show decide ((0:Int)<=-1)=false from rfl,aW];rw[h2]at hR;exact aq.mk hR
 . refine⟨_,_,go _ (.str (u.drop (k+1))) (.bool true) λ U R hR=>?_⟩;refine CW ?_;refine hi.go ?_;rw[h1];have h0:decide ((0:Int)<=(k:Nat))=true:=by simp
   simp only[iN,ak,h0,a8,p5,kQ,l8,gP,aD,iX,xV,show (pL:List UInt8).length=1 from rfl,iJ];refine⟨⟨by omega,by omega,by omega⟩,bD (by omega) (by omega),⟨by omega,by omega,by omega⟩,?_⟩;rw[h3]at hR;refine aq.eq hR ?_;have e1:((k:Int)+((1:Nat):Int)).toNat=k+1:=by omega
   simp[e1]
theorem SQ {U:St} {R:cM->St->Prop} {b n:Nat} {c:kf} {l:List Tk} {t:Tk} {a:AV} (hb:U.box b=some [.vec n c (gB (l++[t]))]) (hn:n=l.length+1) (hl:l.length<=900) (h:R (.ret (.int .i64 t.s.length)) U):ae K 75 [a,.box b 0] U R:=by
 refine Qe ?_;subst hn;unfold R9;simp only[eO hb,List.drop,bl,qN,ak,Zj];refine⟨bD (by omega) (by omega),?_⟩;rw[QT];refine⟨by omega,?_⟩;have e:(((l.length+1:Nat):Int)-1).toNat=l.length:=by omega
 rw[e];obtain⟨r,hr⟩:=tV (L:=l++[t]) (i:=l.length) (t:=t) (by simp);rw[hr];simp only[di,ak,jK,gY,List.drop,rQ,bl,iX];exact aq.mk h
def nv (l:List Tk):AV:=if l=[] then .ag else .vec l.length .eR (gB l)
theorem yO (l l':List Tk):gB (l++l')=gB l++gB l':=by simp[gB]
structure TI (U:St) (b1 b2 b3 b4 b7 bs bd:Nat) (s:aT) (l:List Tk):Prop where
 h1:U.box b1=some [.str s]
 h2:∃ x,U.box b2=some [x]
 h3:∃ x,U.box b3=some [x]
 h4:∃ x,U.box b4=some [x]
 h7:∃ v,U.box b7=some [v]/\Grow U v 51 3 l.length (gB l)/\(l=[]->v=.ag)
 hs:U.box bs=some [.str s]
 hd:U.box bd=some [.func (.func 75) [] [.box b7 0]]
theorem fF {U ad:St} {b:Nat} (h:ad.live b=U.live b):ad.loop b=U.loop b:=by simp[St.loop,h]
theorem ga {U:St} {b:Nat} {L:eY}:(U.set b (.loop L)).loop b=some L:=by simp[St.loop,eE]
theorem yG {U:St} {b:Nat} {L:eY}:(U.new b (.loop L)).loop b=some L:=by simp[St.loop,nS]
theorem bY {U:St} {b b':Nat} {l:List AV} {L:eY} (h:U.box b=some l) (k:U.loop b'=some L):b≠b':=by
 rintro rfl;unfold St.box at h; unfold St.loop at k;split at k
 . rename_i e; simp[e]at h
 . cases k
theorem sY {U:St} {b b':Nat} {l:Tok} {L:eY} (h:U.tok b=some l) (k:U.loop b'=some L):b≠b':=by
 rintro rfl;unfold St.tok at h; unfold St.loop at k;split at k
 . rename_i e; simp[e]at h
 . cases k
theorem TI.pt {U:St} {b1 b2 b3 b4 b7 bs bd o:Nat} {s:aT} {l:List Tk} (T:TI U b1 b2 b3 b4 b7 bs bd s l) {L L':eY} (hL:U.loop o=some L):TI (U.set o (.loop L')) b1 b2 b3 b4 b7 bs bd s l:=by
 have k:∀ {b:Nat} {x:List AV},U.box b=some x->(U.set o (.loop L')).box b=some x:=λ h=>by rw[aM (bY h hL)]; exact h
 obtain⟨v,g1,g2,g3⟩:=T.h7;refine⟨k T.h1,T.h2.imp λ _ h=>k h,T.h3.imp λ _ h=>k h,T.h4.imp λ _ h=>k h,⟨v,k g1,?_,g3⟩,k T.hs,k T.hd⟩;rcases g2 with g2|⟨τ,e,ht,hl⟩
 . exact .inl g2
 . exact .inr ⟨τ,e,by rw[iL (sY ht hL)]; exact ht,hl⟩
theorem TI.D7 {U ad:St} {b1 b2 b3 b4 b7 bs bd:Nat} {s:aT} {l:List Tk} (T:TI U b1 b2 b3 b4 b7 bs bd s l) (e:cG U ad):TI ad b1 b2 b3 b4 b7 bs bd s l:=by
 obtain⟨v,g1,g2,g3⟩:=T.h7;refine⟨e.bf T.h1,T.h2.imp λ _ h=>e.bf h,T.h3.imp λ _ h=>e.bf h,T.h4.imp λ _ h=>e.bf h,⟨v,e.bf g1,?_,g3⟩,e.bf T.hs,e.bf T.hd⟩;rcases g2 with g2|⟨τ,e1,ht,hl⟩
 . exact .inl g2
 . exact .inr ⟨τ,e1,e.tok ht,hl⟩
theorem Pure.LV {f:Nat} {args:List AV} {x:AV} (hargs:bG args=true) (hx:closed x=true)
 (h:∀ R:cM->St->Prop,(∀ v ad,resolve 5 ad v=x->R (.ret v) ad)->ae K f args (bK ⟨.e,0⟩) R):Pure K f args x :=
 Pure.xT sM hargs hx 5 (h _ λ v ad e=>⟨v,rfl,e⟩)
theorem GU (n:Nat) (U:St) (l:List Tk):(gB l).map (resolve (n+1) U)=gB l:=by
 induction l with
 | nil=>rfl
 | cons t l ih =>
   show ((jK t++gB l).map (resolve (n+1) U))=jK t++gB l;rw[List.map_append,ih]; rfl
theorem IC (l:List Tk):bG (gB l)=true:=by
 induction l with
 | nil=>rfl
 | cons t l ih=>show bG (jK t++gB l)=true; simp[jK,bG,closed,ih]
theorem Gp (l:List Tk):closed (nv l)=true:=by
 unfold nv; split
 . rfl
 . exact IC l
theorem FE {U ad:St} {v:AV} {l:List Tk} (n:Nat) (h:Grow U v 51 3 l.length (gB l)) (h0:l=[]->v=.ag):resolve (n+2) ad v=nv l:=by
 unfold nv;split
 . rename_i e; rw[h0 e]; rfl
 . rename_i e;rcases h with ⟨h1,_,_⟩|⟨τ,rfl,_,_⟩
   . exact absurd (oQ.1 h1) e
   . show AV.vec l.length .eR ((gB l).map (resolve (n+1) ad))=_;rw[GU]
def p7:uf->AV
 | .ok l=>.aQ [nv l,.int .i64 0,.int .i64 0]
 | .bad p e=>.aQ [.ag,.int .i64 p,.int .i64 e]
theorem cG.loop {U ad:St} {b:Nat} {L:eY} (h:cG U ad) (k:U.loop b=some L):ad.loop b=some L:=by
 cases e:U.live b with
 | none=>simp[St.loop,e]at k
 | some x=>rw[fF ((h b x e).trans e.symm)]; exact k
theorem n7 {U ad:St} {v:AV} {e sz n:Nat} {l:List AV} (g:Grow U v e sz n l) (e1:∀ b x,(∀ n l,v≠.vec n (.own b) l)->U.live b=some x->ad.live b=some x) :
 (∀ {b:Nat} {x:List AV},U.box b=some x->ad.box b=some x)/\(∀ {b:Nat} {L:eY},U.loop b=some L->ad.loop b=some L):=by
 refine⟨λ {b x} h=>?_,λ {b L} h=>?_⟩
 . cases e:U.live b with
   | none=>exact absurd e (dA h)
   | some y =>
     have:=e1 b y (λ n' l' hv=>by
      rcases g with ⟨_,_,g⟩|⟨τ,g,ht,_⟩
      . rw[g]at hv; cases hv
      . rw[g]at hv; cases hv; exact eo h ht rfl) e
     rw[dx (this.trans e.symm)]; exact h
 . cases e:U.live b with
   | none=>simp[St.loop,e]at h
   | some y =>
     have:=e1 b y (λ n' l' hv=>by
      rcases g with ⟨_,_,g⟩|⟨τ,g,ht,_⟩
      . rw[g]at hv; cases hv
      . rw[g]at hv; cases hv; exact sY ht h rfl) e
     rw[fF (this.trans e.symm)]; exact h
theorem Xm {U:St} {b2 b3 b4:Nat} {lv:AV} {p e:Int} {K':AV->St->Prop} {Kp:AV->St->Prop} (h2:∃ x,U.box b2=some [x]) (h3:∃ x,U.box b3=some [x]) (h4:∃ x,U.box b4=some [x]) (HO:b2≠b3) (HP:b2≠b4) (Fe:b3≠b4) (hl:lv.cA=true/\au lv=[lv])
 (h:∀ lh,lh.box b2=some [lv]->lh.box b3=some [.int .i64 p]->lh.box b4=some [.int .i64 e]->(∀ b,b≠b2->b≠b3->b≠b4->lh.live b=U.live b)->K' (.aQ []) lh) :
 (aG (some (false,1)) (.box b2 0) lv U).wp K U (λ _ U=>(aG (some (false,1)) (.box b3 0) (.int .i64 p) U).wp K U (λ _ U=>(aG (some (false,1)) (.box b4 0) (.int .i64 e) U).wp K U K' Kp) Kp) Kp:=by
 obtain⟨x2,h2⟩:=h2;obtain⟨x3,h3⟩:=h3;obtain⟨x4,h4⟩:=h4;rw[cL h2];refine⟨⟨hl.1,by rw[hl.2]; rfl,by simp⟩,?_⟩;rw[cL (show (U.set b2 _).box b3=some [x3] by rw[aM HO.symm]; exact h3)];refine⟨⟨rfl,rfl,by simp⟩,?_⟩;rw[cL (show ((U.set b2 _).set b3 _).box b4=some [x4] by rw[aM Fe.symm,aM HP.symm]; exact h4)];refine⟨⟨rfl,rfl,by simp⟩,h _ ?_ ?_ ?_ λ b m2 m3 m4=>?_⟩
 . rw[aM HP,aM HO,aX,hl.2]; rfl
 . rw[aM Fe,aX]; rfl
 . rw[aX]; rfl
 . rw[eE,if_neg m4,eE,if_neg m3,eE,if_neg m2]
theorem sZ (s:aT) (hs:s.length<=3000):Pure K 33 [.str s] (p7 (eA s)):=by
 refine Pure.LV rfl (by cases eA s with|ok l=>simp[p7,closed,bG,Gp]|bad p e=>rfl) λ R hR=>?_
 refine P3 ?_;unfold RY;rw[fY rfl];intro b1 hb1;rw[cK];intro b2 hb2;rw[cK];intro b3 kL;rw[cK];intro b4 pU;have n12:b1≠b2:=hb2.bP aI;have g1:=aI (U:=bK ⟨.e,0⟩) (b:=b1) (l:=au (.str s));generalize Pt:(bK _).new b1 _=bF at *;have Zs:=(bC hb2 (x:=.box [.ag])).bf g1;have g2:=aI (U:=bF) (b:=b2) (l:=[.ag]);generalize Pu:bF.new b2 _=bI at *;have Vg:=(bC kL (x:=.box [.int .i64 0])).bf Zs;have Vh:=(bC kL (x:=.box [.int .i64 0])).bf g2;have g3:=aI (U:=bI) (b:=b3) (l:=[.int .i64 0]);have HO:b2≠b3:=kL.bP g2;generalize aaV:bI.new b3 _=cj at *;have k1:=(bC pU (x:=.box [.int .i64 0])).bf Vg;have k2:=(bC pU (x:=.box [.int .i64 0])).bf Vh;have k3:=(bC pU (x:=.box [.int .i64 0])).bf g3;have k4:=aI (U:=cj) (b:=b4) (l:=[.int .i64 0]);have HP:b2≠b4:=pU.bP Vh;have Fe:b3≠b4:=pU.bP g3;generalize EN:cj.new b4 _=cm at *;clear Pt Pu aaV EN g1 Zs Vg g2 Vh g3 hb1 hb2 kL pU
 replace k1:cm.box b1=some [.str s]:=k1
 have fin:∀ (ad:St) (lv:AV) (p e:Int),ad.box b2=some [lv]->ad.box b3=some [.int .i64 p]->ad.box b4=some [.int .i64 e]->(∀ lh,resolve 5 lh (.aQ [lv,.int .i64 p,.int .i64 e])=p7 (eA s)) ->
  bE (some (false,1)) (.box b2 0) ad λ r0=>bE (some (false,1)) (.box b3 0) ad λ r1=>bE (some (false,1)) (.box b4 0) ad λ r2=>aq R (.aQ [r0,r1,r2]) ad:=by
  intro ad lv p e m2 m3 m4 hres;rw[FA m2 (dN),FA m3 (dN),FA m4 (dN)];exact aq.mk (hR _ _ (hres _))
 simp only[eO k1,B7,List.drop,bl];refine (OS s).go ?_;simp only[bh,List.drop,bl,cP,ak];have ik:eA s=if (qS s).2≠0 then .bad (qS s).1 (qS s).2 else dE s.length s 0 []:=rfl
 by_cases he:(qS s).2=0
 . simp only[he,dq,cT,aW];rw[if_neg (by simp[he])]at ik;rw[cK];intro b7 qs;have n71:=(qs.bP k1).symm;have n72:=(qs.bP k2).symm;have n73:=(qs.bP k3).symm;have n74:=(qs.bP k4).symm;have e5:=bC qs (x:=.box [.ag]);have m7:=aI (U:=cm) (b:=b7) (l:=[.ag]);generalize aaW:cm.new b7 _=cY at *;rw[eO (e5.bf k1),dN,bl];refine Qf ?_;unfold Sa;rw[fY rfl];intro bs KT;have n7s:=KT.bP m7;have e6:=bC KT (x:=.box (au (.str s)));have ms:=aI (U:=cY) (b:=bs) (l:=au (.str s));generalize aaX:cY.new bs _=kP at *;rw[fY rfl];intro bd Vv;have n7d:=Vv.bP (e6.bf m7);have e7:=bC Vv (x:=.box (au (.func (.func 75) [] [.box b7 0])));have md:=aI (U:=kP) (b:=bd) (l:=au (.func (.func 75) [] [.box b7 0]));generalize aaY:kP.new bd _=jZ at *;refine aq.mk ?_;refine⟨by kernel_rfl,λ o L ho KP Vr Y=>?_⟩;have KE:=e5.trans (e6.trans e7);have T7:TI jZ b1 b2 b3 b4 b7 bs bd s []:=⟨KE.bf k1,⟨_,KE.bf k2⟩,⟨_,KE.bf k3⟩,⟨_,KE.bf k4⟩,⟨_,(e6.trans e7).bf m7,.inl ⟨rfl,rfl,rfl⟩,λ _=>rfl⟩,e7.bf ms,md⟩;have T8:=T7.D7 (bC ho (x:=.loop L));have L8:=yG (U:=jZ) (b:=o) (L:=L);generalize aaZ:jZ.new o _=ue at *;clear aaW aaX aaY aaZ T7 KE e5 e6 e7 m7 ms md ho Vv KT qs k1 k2 k3 k4;refine MU ?_;unfold MT;refine⟨λ m v0 v1 v2 v4 ad=>∃ f p l,m=s.length-p/\v0=.qf o/\v1=.box bs 0/\v2=.box bd 0/\v4=.int .i64 (p:Nat)/\p<=s.length/\s.length-p<=f/\l.length<=900/\dE f s p l=eA s/\TI ad b1 b2 b3 b4 b7 bs bd s l/\∃ L1,ad.loop o=some L1/\L1.st .ready none=L/\L1.state=.ready/\L1.eF=none,
    ⟨_,s.length,0,[],rfl,rfl,rfl,rfl,rfl,by omega,by omega,by simp,ik.symm,T8,L,L8,by cases L; simp_all [eY.st],KP,Vr⟩,?_⟩
   clear T8 L8 ik he;rintro m v0 v1 v2 v4 qg ⟨f,p,l,rfl,rfl,rfl,rfl,rfl,hp,hf,VT,ik,T,L1,pT,fz,EF,Ck⟩;rw[eO T.hs,dN,bl];simp only[iX,ak,bX,bJ];refine⟨λ aL=>?_,λ jW=>?_⟩
   . have aL:p<s.length:=by omega
     have z6:s.drop p=s[p]::s.drop (p+1):=iq aL;cases f with
     | zero=>omega
     | succ f =>
     simp only[dE]at ik;rw[z6]at ik;simp only at ik;rw[eO T.hs,dN,bl,A6];refine⟨by omega,?_⟩;rw[iJ,getD_at aL];intro jj yz;have c32:((s[p].toNat:Int)=32)=(s[p].toNat=32):=by simp; omega
     have c10:((s[p].toNat:Int)=10)=(s[p].toNat=10):=by simp; omega
     have aap:((s[p].toNat:Int)=126)=(s[p].toNat=126):=by simp; omega
     have blank:s[p].toNat=32\/s[p].toNat=10->jj (.qf o) (.box bs 0) (.box bd 0) (.int .i64 (p:Nat)) (.int .u8 s[p].toNat) (.bool true) qg:=λ h=>by
      refine yz _ _ _ _ _ _ _ ?_;rw[if_pos h]at ik;simp only[a8,dm];exact⟨bD (by omega) (by omega),_,by omega,f,p+1,l,rfl,rfl,rfl,rfl,by simp,by omega,by omega,VT,ik,T,L1,pT,fz,EF,Ck⟩
     have other:¬ (s[p].toNat=32\/s[p].toNat=10)->jj (.qf o) (.box bs 0) (.box bd 0) (.int .i64 (p:Nat)) (.int .u8 s[p].toNat) (.bool false) qg:=λ h=>by
      refine yz _ _ _ _ _ _ _ ?_;rw[if_neg h]at ik;simp only[aW,bw,ak,bJ,aap];have after:∀ {lh:St} {L2:eY},L2={ L1 with state:=.ready,eF:=none }->L2.st .ready none=L/\L2.state=.ready/\L2.eF=none:=λ h=>by
       subst h; exact⟨by rw[<- fz]; rfl,rfl,rfl⟩
      refine⟨λ uv=>?_,λ uv=>?_⟩
      . rw[if_pos uv]at ik;rw[eO T.hs,dN,bl];have hdn:((s.take s.length).drop p)=s[p]::s.drop (p+1):=by rw[xg,z6]
        simp only[p5,kQ,l8,wp_cond,ak,iJ,hdn];refine⟨⟨by omega,by omega,by omega⟩,?_⟩;obtain⟨y,z,aaC⟩:=OT (s[p]::s.drop (p+1)) (by rw[<- z6]; simp; omega);refine aaC.go ?_;have hlen:((s[p]::s.drop (p+1)).takeWhile λ c=>c.toNat≠10).length<=s.length-p:=by
         rw[<- z6]; exact Nat.le_trans (Fw _).length_le (by simp)
        have cv:1<=((s[p]::s.drop (p+1)).takeWhile λ c=>c.toNat≠10).length/\((s[p]::s.drop (p+1)).takeWhile λ c=>c.toNat≠10)≠[]:=by
         rw[mj]; simp[uv]
        generalize ((s[p]::s.drop (p+1)).takeWhile λ c=>c.toNat≠10)=nt at *;simp only[bh,List.drop,bl];simp only[gi,zF];refine Y _ _ _ L1 rfl pT fz ?_;refine⟨L1,pT,EF,?_⟩;have hnn:¬ nt=w_:=cv.2;simp only[pB,ak,hnn,dz,dZ,a8];refine⟨_,ga,?_⟩;simp only[bA,dr,ak,cT,aW,iX,dm];refine⟨bD (by omega) (by omega),_,?_,f,p+nt.length,l,rfl,rfl,rfl,rfl,by simp,by omega,by omega,VT,ik,(T.pt pT).pt ga,_,ga,?_⟩
        . omega
        . exact⟨by rw[<- fz]; rfl,rfl,rfl⟩
      . rw[if_neg uv]at ik;simp only[gi,zF];refine Y _ _ _ L1 rfl pT fz ?_;refine⟨L1,pT,EF,?_⟩;have T2:=T.pt (L':={ L1 with state:=.busy }) pT
        have L2:(qg.set o (.loop { L1 with state:=.busy })).loop o=some { L1 with state:=.busy }:=ga
        generalize Y1:qg.set o (.loop { L1 with state:=.busy })=td at *
        simp only[pB,ak,dq,cT,aW];rw[eO T2.h1,dN,bl];have hdn:((s.take s.length).drop p)=s[p]::s.drop (p+1):=by rw[xg,z6]
        simp only[p5,kQ,l8,wp_cond,ak,iJ,hdn];refine⟨⟨by omega,by omega,by omega⟩,?_⟩;refine (IL (s[p]::s.drop (p+1)) (by rw[<- z6]; simp; omega)).go ?_;cases og:fg (s[p]::s.drop (p+1)) with
        | mk e kt =>
        obtain⟨k,tx⟩:=kt;rw[og]at ik;simp only at ik;simp only[JY,bh,List.drop,bl];rw[cK];intro hZ sO;have g11:(td.new hZ (.box [AV.int .u8 0,AV.str [],AV.int .i64 0])).box hZ=some [AV.int .u8 0,AV.str [],AV.int .i64 0]:=aI;rw[cL g11];refine⟨⟨rfl,rfl,by simp⟩,?_⟩;have TL:=((cG.refl td).new sO (x:=.box [AV.int .u8 0,AV.str [],AV.int .i64 0])).set (x:=.box (ax [AV.int .u8 0,AV.str [],AV.int .i64 0] 0 (au (.agg [.int .u8 (k:Nat),.str tx,.int .i64 0])))) sO.1;have m11:((td.new hZ (.box [AV.int .u8 0,AV.str [],AV.int .i64 0])).set hZ (.box (ax [AV.int .u8 0,AV.str [],AV.int .i64 0] 0 (au (.agg [.int .u8 (k:Nat),.str tx,.int .i64 0]))))).box hZ=some [.int .u8 (k:Nat),.str tx,.int .i64 0]:=by rw[aX]; rfl
        have n117:b7≠hZ:=sO.bP (T2.h7.choose_spec.1);generalize (td.new hZ (.box [AV.int .u8 0,AV.str [],AV.int .i64 0])).set hZ (.box (ax [AV.int .u8 0,AV.str [],AV.int .i64 0] 0 (au (.agg [.int .u8 (k:Nat),.str tx,.int .i64 0]))))=vn at *;have T3:=T2.D7 TL;have L3:=TL.loop L2;have YH:∀ (b:Nat) (x:List AV),td.box b=some x->b≠hZ:=λ b x h=>sO.bP h;clear TL g11 sO Y1;intro j hj;obtain⟨v,q1,q2,q3⟩:=T3.h7;have cont:∀ e':Int,(e'≠0->eA s=.bad p e')->(e'=0->l.length<900/\0<tx.length/\dE f s (p+tx.length) (l++[⟨k,tx,p⟩])=eA s)->(e'=0->e=0)->j (.box b2 0) (.box b3 0) (.box b4 0) (.box b7 0) (.int .i64 (p:Nat)) (.box hZ 0) (.int .i64 e') vn:=by
         intro e' aaB YO VH;refine hj _ _ _ _ _ _ _ _ ?_
         by_cases jV:e'=0
         . obtain⟨adr,sc,VV⟩:=YO jV;simp only[jV,cP,ak,dq,cT,aW,aN,cq];rw[cL m11];refine⟨⟨rfl,rfl,by simp⟩,?_⟩;have kp:∀ {b:Nat} {x:List AV},b≠hZ->vn.box b=some x->(vn.set hZ (.box (ax [.int .u8 (k:Nat),.str tx,.int .i64 0] 2 (au (.int .i64 (p:Nat)))))).box b=some x:=λ h1 h2=>by rw[aM h1]; exact h2
           rw[eO (kp n117 q1),dN,bl];rw[mR aX];refine⟨by simp[ax],?_⟩;have WR:Grow (vn.set hZ (.box (ax [.int .u8 (k:Nat),.str tx,.int .i64 0] 2 (au (.int .i64 (p:Nat)))))) v 51 3 l.length (gB l):=by
            rcases q2 with q2|⟨τ,r1,r2,r3⟩
            . exact .inl q2
            . exact .inr ⟨τ,r1,by rw[iL (eo m11 r2).symm]; exact r2,r3⟩
           have wb:∀ {b:Nat} {x:List AV},vn.box b=some x->b≠hZ->(vn.set hZ (.box (ax [.int .u8 (k:Nat),.str tx,.int .i64 0] 2 (au (.int .i64 (p:Nat)))))).box b=some x:=λ h1 h2=>kp h2 h1;have l11:(vn.set hZ (.box (ax [.int .u8 (k:Nat),.str tx,.int .i64 0] 2 (au (.int .i64 (p:Nat)))))).loop o=some { L1 with state:=.busy }:=by
            rw[fF]; exact L3;rw[eE,if_neg (bY m11 L3).symm]
           have Ej:(List.take 3 (List.drop 0 (ax [.int .u8 (k:Nat),.str tx,.int .i64 0] 2 (au (.int .i64 (p:Nat))))))=jK ⟨k,tx,p⟩:=by simp[ax,jK]
           rw[Ej];generalize vn.set hZ (.box (ax [.int .u8 (k:Nat),.str tx,.int .i64 0] 2 (au (.int .i64 (p:Nat)))))=adt at *;rw[fw];refine⟨by omega,?_⟩;rw[dQ (o:=0) (s:=3) rfl];refine⟨⟨rfl,rfl,by simp[bN]⟩,?_⟩;rw[gw];refine⟨rfl,?_⟩;have RP:=wb q1 n117;refine yg (m:=1) (l2:=jK ⟨k,tx,p⟩) WR rfl rfl (by omega) (by omega) (λ h=>q3 (oQ.1 h)) λ BY v' g1 g2 g3=>?_;obtain⟨kb,kl⟩:=n7 WR g2;have sd:v'.cA=true/\au v'=[v']:=by
            rcases g1 with ⟨_,_,rfl⟩|⟨τ,rfl,_,_⟩<;>exact⟨rfl,rfl⟩
           rw[cL (kb RP)];refine⟨⟨sd.1,by rw[sd.2]; rfl,by simp⟩,?_⟩;have kk:∀ {b:Nat} {x:List AV},b7≠b->BY.box b=some x->(BY.set b7 (.box (ax [v] 0 (au v')))).box b=some x:=λ h1 h2=>by rw[aM h1.symm]; exact h2
           have lo:(BY.set b7 (.box (ax [v] 0 (au v')))).loop o=some { L1 with state:=.busy }:=by
            rw[fF]; exact kl l11;rw[eE,if_neg (bY (kb RP) (kl l11)).symm]
           have Bf:∀ {b:Nat} {x:List AV},td.box b=some x->b≠hZ:=λ h=>YH _ _ h;have T5:TI (BY.set b7 (.box (ax [v] 0 (au v')))) b1 b2 b3 b4 b7 bs bd s (l++[⟨k,tx,p⟩]):=by
            refine⟨kk n71 (kb (wb T3.h1 (Bf T2.h1))),?_,?_,?_,⟨v',by rw[aX,sd.2]; rfl,?_,λ h=>by simp at h⟩,kk n7s (kb (wb T3.hs (Bf T2.hs))),kk n7d (kb (wb T3.hd (Bf T2.hd)))⟩
            . obtain⟨x,hx⟩:=T2.h2; obtain⟨y,hy⟩:=T3.h2; exact⟨y,kk n72 (kb (wb hy (Bf hx)))⟩
            . obtain⟨x,hx⟩:=T2.h3; obtain⟨y,hy⟩:=T3.h3; exact⟨y,kk n73 (kb (wb hy (Bf hx)))⟩
            . obtain⟨x,hx⟩:=T2.h4; obtain⟨y,hy⟩:=T3.h4; exact⟨y,kk n74 (kb (wb hy (Bf hx)))⟩
            . have el:(l++[(⟨k,tx,p⟩:Tk)]).length=l.length+1:=by simp
              rw[el,yO];rcases g1 with ⟨h0,_⟩|⟨τ,r1,r2,r3⟩
              . omega
              . exact .inr ⟨τ,r1,by rw[iL (eo (kb RP) r2).symm]; exact r2,r3⟩
           have YQ:∃ c,v'=.vec (l.length+1) c (gB (l++[⟨k,tx,p⟩])):=by
            rw[yO];rcases g1 with ⟨h0,_⟩|⟨τ,r1,_,_⟩
            . omega
            . exact⟨_,r1⟩
           have Zz:(BY.set b7 (.box (ax [v] 0 (au v')))).box b7=some [v']:=by rw[aX,sd.2]; rfl
           generalize BY.set b7 (.box (ax [v] 0 (au v')))=ac8 at *;refine⟨_,lo,?_⟩;have T6:=T5.pt (L':={ L1 with state:=.ready,eF:=none }) lo
           obtain⟨c,hc⟩:=YQ;subst hc;have aaz:(ac8.set o (.loop { L1 with state:=.ready,eF:=none })).box b7=some [.vec (l.length+1) c (gB (l++[⟨k,tx,p⟩]))]:=by rw[aM (bY Zz lo)]; exact Zz
           simp only[bA,dr,ak,cT,aW];rw[eO T6.hd,dN,bl];simp only[show dG K.P 75=true by kernel_rfl,if_true,jr,iK,gY];refine SQ aaz rfl VT ?_;simp only[bA,dm];have pV:p+tx.length<=s.length:=by
            have:=(x8 (s:=s[p]::s.drop (p+1)) (k:=k) (t:=tx) (by rw[og,VH jV])).2.length_le;rw[<- z6]at this;simp at this;omega
           refine⟨bD (by omega) (by omega),_,?_,f,p+tx.length,l++[⟨k,tx,p⟩],rfl,rfl,rfl,rfl,by simp,pV,by omega,by simp; omega,VV,T6,_,ga,by rw[<- fz]; rfl,rfl,rfl⟩;omega
         . simp only[jV,cP,ak,dz,dZ,a8];refine Xm T3.h2 T3.h3 T3.h4 HO HP Fe ⟨rfl,rfl⟩ λ lh m2 m3 m4 mo=>?_;have ob:∀ {b:Nat},(∃ x,vn.box b=some [x])->o≠b:=λ ⟨x,h⟩=>(bY h L3).symm;have L4:lh.loop o=some { L1 with state:=.busy }:=by rw[fF (mo o (ob T3.h2) (ob T3.h3) (ob T3.h4))]; exact L3
           refine⟨_,L4,?_⟩;simp only[bA,dr,ak,dZ,a8];refine aq.mk ⟨_,ga,by simp,?_⟩;have kp:∀ {b:Nat} {x:List AV},o≠b->lh.box b=some x->((lh.set o (.loop { L1 with state:=.done,eF:=some .ret })).del o).box b=some x:=λ h1 h2=>by rw[iD h1.symm,aM h1.symm]; exact h2
           refine fin _ _ _ _ (kp (ob T3.h2) m2) (kp (ob T3.h3) m3) (kp (ob T3.h4) m4) λ cj=>?_;rw[aaB jV]; rfl
        have hlen:bR (some false) v=.val (.int .i64 l.length):=by
         rcases q2 with ⟨h0,_,rfl⟩|⟨τ,rfl,_,_⟩
         . rw[h0]; rfl
         . rfl
        simp only[bw,ak,bj,aP]
        by_cases Ce:e=0
        . subst Ce;simp only[dq,ib,cn,nk q1,dN,fi,jq,hlen,aD,bw,aO,if_true,ak,bJ];rw[if_neg (by simp)]at ik;refine⟨λ aaA=>?_,λ aaA=>?_⟩
          . rw[if_pos (by omega)]at ik;exact cont 5 (λ _=>ik.symm) (λ h=>by omega) (λ h=>by omega)
          . rw[if_neg (by omega)]at ik;have sc:=(x8 og).1.1;exact cont 0 (λ h=>absurd rfl h) (λ _=>⟨by omega,List.length_pos_iff.2 sc,ik⟩) (λ _=>rfl)
        . simp only[Ce,dz,show (false==true)=false from rfl,cz,aO,bQ,if_false,ak,aW];rw[if_pos Ce]at ik;exact cont e (λ _=>ik.symm) (λ h=>absurd h Ce) (λ h=>h)
     simp only[bw,ak,bJ,c32,c10];refine⟨λ h=>?_,λ h=>?_⟩
     . simp only[h,dq]; rw[h]at blank; exact blank (.inl rfl)
     . by_cases jy:s[p].toNat=10
       . simp only[jy,dq]; rw[jy]at blank; exact blank (.inr rfl)
       . simp only[jy,dz]; exact other (λ h1=>h1.elim h jy)
   . have hd0:s.drop p=[]:=List.drop_eq_nil_of_le (by omega);have VV:eA s=.ok l:=by
      rw[<- ik];cases f with
      | zero=>rfl
      | succ f=>simp only[dE]; rw[hd0]
     refine aq.mk ⟨L1,pT,by rw[EF]; simp,?_⟩;rw[Ck];obtain⟨v,g1,g2,g3⟩:=T.h7;have dl:∀ {b:Nat} {x:List AV},qg.box b=some x->(qg.del o).box b=some x:=λ h=>by rw[iD (bY h pT)]; exact h
     have hv:v.cA=true/\au v=[v]:=by
      rcases g2 with ⟨_,_,rfl⟩|⟨τ,rfl,_,_⟩<;>exact⟨rfl,rfl⟩
     show (ar (some (false,1)) (.box b7 0) (qg.del o)).wp K (qg.del o) _ _;rw[eO (dl g1),dN,bl];refine Xm (T.h2.imp λ _ h=>dl h) (T.h3.imp λ _ h=>dl h) (T.h4.imp λ _ h=>dl h) HO HP Fe hv λ lh m2 m3 m4 _=>?_;refine fin lh _ _ _ m2 m3 m4 λ cj=>?_;rw[VV];show AV.aQ [resolve 4 cj v,.int .i64 0,.int .i64 0]=_;rw[FE 2 g2 g3];rfl
 . simp only[he,dz,dZ,a8];rw[if_pos he]at ik;refine Xm ⟨_,k2⟩ ⟨_,k3⟩ ⟨_,k4⟩ HO HP Fe ⟨rfl,rfl⟩ λ cY m2 m3 m4 _=>?_;exact fin cY _ _ _ m2 m3 m4 λ lh=>by rw[ik]; rfl
end Go.Rip
