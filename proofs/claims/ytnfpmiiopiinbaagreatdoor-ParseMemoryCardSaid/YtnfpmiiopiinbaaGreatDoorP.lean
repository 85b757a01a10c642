import Derived.Test.YtnfpmiiopiinbaaGreatDoorN
set_option linter.all false
namespace Go.Rip
open Go.Proofs Go.RowKit
def cls(c:Int):Int:=if c=32\/c=10 then 1 else if c<32\/c > 126 then 0 else if 48<=c/\c<=57 then 2 else if 97<=c/\c<=122 then 3 else if 65<=c/\c<=90 then 4 else 5
def LA(c:Int):Pure K 216 [co c] (bv (cls c)):=by
 intro U R hR;refine YF ?_;simp (contextual:=true) only[YE,eh,cU,jr,fe,ak,ah,ar,bX,rO,qu,aN,aY,iC,dq,eX,ad,aF,aw,ma,bO,bB,ao,av,iI,DU,bp,aL,aG,cC,cZ,ite_true,ite_false,beq_true,beq_false,cL,dS,dU,if_true,if_false,true_and,and_true,not_true,not_false_iff]
 repeat' (first|refine And.intro ?_ ?_|intro _)
 all_goals (refine aq.eq hR ?_;simp only[cls,AV.int.injEq,true_and])
 all_goals grind
def MD(l:List Int)(s:Int):Int:=match l.findIdx? (·=s) with|some i=>i|none=>-1
def OD(c:nj)(l:List Int)(s:Int)(hn:l.length<=100000):Pure K 246 [.vec l.length c (l.map (.int .i64)),bv s] (bv (MD l s)):=by
 intro U R hR;refine Zp ?_;simp only[Zo,di,ak,gX,aQ,ah,ar,ca,cJ,u1,ad];refine⟨λm v0 v1 v7 v8 aa=>∃i:Nat,m=l.length-i/\i<=l.length/\v0=.vec l.length c (l.map (.int .i64))/\v1=bv s/\v7=bv l.length/\v8=bv i/\aa=U/\∀j,j<i->l[j]?≠some s,⟨l.length,0,by simp[Fn.app]⟩,?_⟩;intro m v0 v1 v7 v8 aa hI;obtain⟨i,rfl,hi,rfl,rfl,rfl,rfl,rfl,iV⟩:=hI;simp only[aY,ad,bp];refine⟨λaA=>?_,λgL=>?_⟩
 . have aA:i<l.length:=by omega
   have hd:(l.map (AV.int .i64)).drop (i*1)=bv l[i]::(l.map (AV.int .i64)).drop (i+1):=by
    rw[Nat.mul_one,gI (by simpa using aA)];simp
   simp only[Cx,wp_cond,ad,ez,hd,y7,eP,aN,bp];refine⟨d6,λhe=>?_,λcD=>?_⟩
   . refine aq.eq hR ?_;have:l.findIdx? (·=s)=some i:=by
      rw[IG];refine⟨aA,by simp[he],λj hj=>?_⟩;have:=iV j hj;rw[mP d6]at this;simpa using this
     simp[MD,this]
   . simp only[oI,il,wp_cond,ad];refine⟨aX d6 d6,?_⟩;refine⟨l.length-(i+1),d6,i+1,rfl,d6,rfl,rfl,rfl,d8,rfl,λj hj=>?_⟩;rcases ik j i with h|h
     . exact iV j h
     . have:j=i:=by omega
       subst this;rw[mP aA];simpa using λh=>cD h.symm
 . refine aq.eq hR ?_;have:l.findIdx? (·=s)=none:=by
    rw[List.findIdx?_eq_none_iff];intro x hx;obtain⟨j,hj,rfl⟩:=List.getElem_of_mem hx;have:=iV j d6;rw[mP hj]at this;simpa using this
   simp[MD,this]
def OB(l:List Int)(s:Int):decide (0<=MD l s)=decide (s∈l):=by
 unfold MD;split
 . rename_i j hj;obtain⟨h1,h2,_⟩:=IG.1 hj;have:s∈l:=by have:=of_decide_eq_true h2;exact this▸vd h1
   simp[this]
 . rename_i hj;rw[List.findIdx?_eq_none_iff]at hj;have:s∉l:=λhm=>by simpa using hj s hm
   simp[this]
def BB(c:Int)(cp:nj)(l:List Int)(hn:l.length<=100000):Pure K 151 [co c,.vec l.length cp (l.map (.int .i64))] (.bool (decide (cls c∈l))):=by
 intro U R hR;refine Xj ?_;dsimp only[Xi,ae,ah];refine (LA c).go ?_;refine YD ?_;dsimp only[YC,ae,ah,ar];refine (OD cp l (cls c) hn).go ?_;simp only[eX,ad,OB];exact aq.mk (aq.mk hR)
def JL(c:UInt8):decide (cls c.toNat∈[2])=fE c:=by
 unfold cls fE;rw[oN];simp only[lT,dU]
 grind
def UB(c:UInt8):decide (cls c.toNat∈[3])=lY c:=by
 unfold cls lY;rw[oN];simp only[lT,dU]
 grind
def Uy(c:UInt8):decide (cls c.toNat∈[2,3,4])=dp c:=by
 unfold cls dp fE lY BC;rw[oN];simp only[dy,List.not_mem_nil,or_false,dU,ml]
 grind
def UA(c:UInt8):(!decide (cls c.toNat∈[0]))=kO c:=by
 unfold cls kO;rw[oN];simp only[lT,dU,Bool.not_eq_true',decide_eq_false_iff_not]
 grind
def OE(c:UInt8):Pure K 146 [co c.toNat] (.bool (kO c)):=by
 intro U R hR;refine W9 ?_;dsimp only[W8,ae,ah,fW,aC];rw[fN];refine⟨d6,?_⟩;rw[eg (o:=0) (s:=1) rfl];refine⟨⟨rfl,rfl,by simp[bZ]⟩,?_⟩;rw[gS];refine⟨rfl,?_⟩;refine (BB c.toNat .full [0] d8).go ?_;simp only[db,ad,UA];exact aq.mk hR
variable {s:aT}
def getD_at{i:Nat}(h:i<s.length):s.getD i 0=s[i]:=by simp[pq,h]
def aap(s:aT):Pure K 74 [.str s] (.az [bv (pG s).1,bv (pG s).2]):=by
 intro U R hR;refine acu ?_;dsimp only[adW,ae,ak,fU,aQ,ah,ar,ca,fW,aC];simp only[ia,ad,dq,bp];unfold pG at hR;refine⟨λh=>?_,λh=>?_⟩
 . rw[if_pos d6]at hR;exact aq.mk hR
 . rw[if_neg d6]at hR;refine⟨λm v0 v9 v10 aa=>∃i:Nat,m=s.length-i/\i<=s.length/\v0=.str s/\v9=bv s.length/\v10=bv i/\aa=U/\∀j(hj:j<s.length),j<i->kO s[j],⟨s.length,0,by simp[Fn.app]⟩,?_⟩;rintro m v0 v9 v10 aa ⟨i,rfl,hi,rfl,rfl,rfl,rfl,cg⟩;simp only[aY,ad,bp];refine⟨λaA=>?_,λgL=>?_⟩
   . have aA:i<s.length:=by omega
     rw[sZ];refine⟨d6,?_⟩;rw[ez,getD_at aA];refine (OE s[i]).go ?_;simp only[db,ad];cases hb:kO s[i] with
     | false =>
       simp only[dS,aL];have:s.findIdx? (λc=>!kO c)=some i:=by
        rw[IG];exact⟨aA,by simp[hb],λj hj=>by simp[cg j d6 hj]⟩
       rw[this]at hR;exact aq.mk hR
     | true =>
       simp only[cL,aG,cF];refine⟨aX d6 d6,s.length-(i+1),d6,i+1,rfl,d6,rfl,rfl,d8,rfl,λj hj wQ=>?_⟩;rcases ik j i with h|h
       . exact cg j hj h
       . have:j=i:=by omega
         subst this;exact hb
   . have:s.findIdx? (λc=>!kO c)=none:=by
      rw[List.findIdx?_eq_none_iff];intro x hx;obtain⟨j,hj,rfl⟩:=List.getElem_of_mem hx;simp[cg j hj d6]
     rw[this]at hR;exact aq.mk hR
def wI{p:UInt8->Bool}:∀{l:aT},(∀x∈l,p x)->l.takeWhile p=l
 | [],_=>rfl
 | c::l,h=>by rw[om,h c d8];simp[wI (l:=l) λx hx=>h x (by simp[hx])]
def run_pure(s:aT)(hs:s.length<=100000):Pure K 149 [.str s] (bv (s.takeWhile dp).length):=by
 intro U R hR;refine Xf ?_;dsimp only[Xe,lM,cU,ql,ak,mR,aQ,ah,ar,ca,bX,aC];refine⟨λm v0 v2 aa=>∃i:Nat,m=s.length-i/\i<=s.length/\v0=.str s/\v2=bv i/\aa=U/\∀j(hj:j<s.length),j<i->dp s[j],⟨s.length,0,by simp[Fn.app]⟩,?_⟩;rintro m v0 v2 aa ⟨i,rfl,hi,rfl,rfl,rfl,cg⟩;have td:(s.take i).takeWhile dp=s.take i:=by
  refine wI λx hx=>?_;obtain⟨j,hj,rfl⟩:=List.getElem_of_mem hx;simp only[List.length_take]at hj;rw[List.getElem_take];exact cg j d6 d6
 have Dc:s.takeWhile dp=s.take i++(s.drop i).takeWhile dp:=by
  conv=>lhs;rw[<-List.take_append_drop i s]
  rw[List.takeWhile_append,td];simp
 simp only[ia,ad,aY,aF,aw]
 by_cases aA:i<s.length
 . have ng:(i:Int)<s.length:=by omega
   simp only[ng,cC,eG,bO,ao,vN,iI,ez,getD_at aA];refine⟨d8,?_⟩;rw[th];refine⟨d6,?_⟩;rw[pk (o:=0) (s:=1) rfl];refine⟨⟨rfl,rfl,by simp[bZ]⟩,?_⟩;rw[pk (o:=1) (s:=1) rfl];refine⟨⟨rfl,rfl,by simp[bZ,ax]⟩,?_⟩;rw[pk (o:=2) (s:=1) rfl];refine⟨⟨rfl,rfl,by simp[bZ,ax]⟩,?_⟩;rw[va];refine⟨rfl,_,BB s[i].toNat .full [2,3,4] d8,?_⟩;rw[Uy];simp only[av,if_true,ad];have hd:s.drop i=s[i]::s.drop (i+1):=gI aA;cases hb:dp s[i] with
   | true =>
     simp only[aL,cF];refine⟨aX d6 d6,s.length-(i+1),d6,i+1,rfl,d6,rfl,d8,rfl,λj hj wQ=>?_⟩;rcases ik j i with h|h
     . exact cg j hj h
     . have:j=i:=by omega
       subst this;exact hb
   | false =>
     simp only[aG];refine aq.eq hR ?_;rw[Dc,hd,om,hb];simp;omega
 . have ng:¬ (i:Int)<s.length:=by omega
   simp only[ng,cZ,show (false==true)=false from rfl,bB,av,bW,if_false,ad,aG];refine aq.eq hR ?_;rw[Dc,List.drop_eq_nil_of_le d6];simp;omega
def J6{i:Nat}(h:i<s.length):kx 0 (s.take (i+1))=min (10*kx 0 (s.take i)+((s[i].toNat:Int)-48)) 1000001:=by
 have:s.take (i+1)=s.take i++[s[i]]:=by rw[nP,mP h];rfl
 rw[this];unfold kx;rw[List.foldl_append];rfl
def ON(s:aT)(hs:s.length<=100000):Pure K 152 [.str s] (bv (mO s)):=by
 intro U R hR;refine Xl ?_;dsimp only[Xk,eh,cU,ql,ae,ak,gX,aQ,ah,ar,ca,bX,fW,aC];simp only[ia,ad];refine⟨λm v0 v3 v6 v7 aa=>∃i:Nat,m=s.length-i/\i<=s.length/\v0=.str s/\v3=bv (kx 0 (s.take i))/\v6=bv s.length/\v7=bv i/\aa=U/\(s.take i).all fE,⟨s.length,0,by simp[Fn.app,kx]⟩,?_⟩;rintro m v0 v3 v6 v7 aa ⟨i,rfl,hi,rfl,rfl,rfl,rfl,rfl,cg⟩;have hb:=Ev (s.take i) 0 d6;have wg:=u6 (s.take i) 0 cg d6;simp only[aY,ad,bp];refine⟨λaA=>?_,λgL=>?_⟩
 . have aA:i<s.length:=by omega
   rw[sZ];refine⟨d6,?_⟩;rw[ez,getD_at aA,fN];refine⟨d6,?_⟩;rw[eg (o:=0) (s:=1) rfl];refine⟨⟨rfl,rfl,by simp[bZ]⟩,?_⟩;rw[gS];refine⟨rfl,?_⟩;refine (BB s[i].toNat .full [2] d8).go ?_;rw[JL];simp only[db,ad];have ji:s.take (i+1)=s.take i++[s[i]]:=by rw[nP,mP aA];rfl
   cases hd:fE s[i] with
   | false =>
     simp only[dS,aL];refine aq.eq hR ?_;have:s.all fE=false:=by
      rw[Bool.eq_false_iff];intro h;rw[fQ]at h;rw[h s[i] (vd aA)]at hd;cases hd
     simp[mO,this]
   | true =>
     have hc:=lA.1 hd;simp only[cL,aG,SU];refine⟨aX d6 d6,?_⟩;rw[sZ];refine⟨d6,?_⟩;rw[ez,getD_at aA];have hw:IntKind.u8.wrap ((s[i].toNat:Int)-48)=(s[i].toNat:Int)-48:=by
      show ((s[i].toNat:Int)-48)%256=_;omega
     simp only[jA,FE,ad,hw,xh,wp_cond,cF,Qf];refine⟨aX d6 d6,aX d6 d6,aX d6 d6,?_⟩;refine⟨s.length-(i+1),d6,i+1,rfl,d6,rfl,?_,rfl,d8,rfl,?_⟩
     . rw[J6 aA];congr 1;omega
     . rw[ji,List.all_append,cg];simp[hd]
 . have hi:i=s.length:=by omega
   subst hi;rw[oO]at cg hb wg ⊢;have hv:Iy s=kx 0 s:=rfl;simp only[ia,ad,dq,aF,aw]
   by_cases h1:1<s.length
   . have xR:(1:Int)<s.length:=by omega
     simp only[xR,cC,eG,bO,ao,vN,iI,aN,av,if_true,ad,bp];have h0:s.getD (0:Int).toNat 0=s[0]:=getD_at d6;rw[h0];have hh:s.head?=some s[0]:=by
      cases s with
      | nil=>simp at h1
      | cons c r=>rfl
     refine⟨⟨d6,d6⟩,λJm=>?_,λJm=>⟨λhm=>?_,λhm=>?_⟩⟩
     . refine aq.eq hR ?_;have e48:s[0].toNat=(48:UInt8).toNat:=by show s[0].toNat=48;omega
       have:s[0]=48:=UInt8.toNat_inj.1 e48;simp[mO,cg,h1,hh,this]
     . refine aq.eq hR ?_;have:¬ s[0]=48:=λe=>Jm (by rw[e];rfl);simp[mO,cg,hh,this,hv,hm]
     . refine aq.eq hR ?_;have:¬ s[0]=48:=λe=>Jm (by rw[e];rfl);simp[mO,cg,hh,this,hv,hm]
   . have xR:¬ (1:Int)<s.length:=by omega
     simp only[xR,cZ,show (false==true)=false from rfl,bB,av,bW,if_false,ad,aG,bp];refine⟨λhm=>?_,λhm=>?_⟩
     . refine aq.eq hR ?_;simp[mO,cg,h1,hv,hm]
     . refine aq.eq hR ?_;simp[mO,cg,h1,hv,hm]
def Ap(s p:aT):Pure K 213 [.str s,.str p] (.bool (p.isPrefixOf s)) :=
 Pure.FU (vs:=[.string ⟨s.toArray⟩,.string ⟨p.toArray⟩]) (v:=.bool (p.isPrefixOf s)) (λg us h=>by
  simp only[aJ,aB]at h;obtain⟨_,_,rfl,rfl,_,_,rfl,rfl,rfl⟩:=h;rfl) (λg=>by simp only[aB]) λw=>Tryz.strings_HasPrefix ⟨s.toArray⟩ ⟨p.toArray⟩ w
def B7(s:aT):(fF.find? λx=>x.isPrefixOf s)=if bY.isPrefixOf s then some bY else if gn.isPrefixOf s then some gn else match s with
 | []=>none
 | c::_=>if c∈fG then some [c] else none:=by
 cases s with
 | nil=>rfl
 | cons c r =>
   by_cases h1:bY.isPrefixOf (c::r)
   . simp only[fF,List.find?_cons,h1,if_true]
   . by_cases h2:gn.isPrefixOf (c::r)
     . simp only[fF,List.find?_cons,h1,h2,if_true,bW,if_false]
     . simp only[fF,List.find?_cons,h1,h2,bW,if_false];have e:∀x:UInt8,[x].isPrefixOf (c::r)=(x==c):=λx=>by simp[List.isPrefixOf]
       simp only[show gH=[61] from rfl,show pX=[60] from rfl,show pW=[43] from rfl,show oY=[45] from rfl,show qO=[42] from rfl,show ni=[33] from rfl,show dM=[40] from rfl,show dE=[41] from rfl,show qP=[123] from rfl,show sX=[125] from rfl,show ep=[44] from rfl,show dF=[59] from rfl,show ef=[58] from rfl,show sW=[46] from rfl,e]
       by_cases hc:c∈fG
       . rw[if_pos hc];simp only[fG,dy,List.not_mem_nil,or_false]at hc;rcases hc with rfl|rfl|rfl|rfl|rfl|rfl|rfl|rfl|rfl|rfl|rfl|rfl|rfl|rfl<;>rfl
       . rw[if_neg hc];simp only[fG,dy,List.not_mem_nil,or_false,not_or]at hc;have f:∀x:UInt8,¬ c=x->(x==c)=false:=λx h=>by simp[Ne.symm h]
         simp only[f _ hc.1,f _ hc.2.1,f _ hc.2.2.1,f _ hc.2.2.2.1,f _ hc.2.2.2.2.1,f _ hc.2.2.2.2.2.1,f _ hc.2.2.2.2.2.2.1,f _ hc.2.2.2.2.2.2.2.1,f _ hc.2.2.2.2.2.2.2.2.1,f _ hc.2.2.2.2.2.2.2.2.2.1,f _ hc.2.2.2.2.2.2.2.2.2.2.1,f _ hc.2.2.2.2.2.2.2.2.2.2.2.1,f _ hc.2.2.2.2.2.2.2.2.2.2.2.2.1,f _ hc.2.2.2.2.2.2.2.2.2.2.2.2.2,List.find?_nil]
def ME(l:List UInt8)(c:UInt8):decide (Lib.indexByte l c<0)=!decide (c∈l):=by
 induction l with
 | nil=>simp[Lib.indexByte]
 | cons b l ih =>
   have hg:=Lib.indexByte_ge l c;unfold Lib.indexByte
   by_cases h:b=c
   . subst h;simp
   . have hc:¬ c=b:=λe=>h e.symm;have h':(b==c)=false:=by simp[h]
     rw[h']
     by_cases hm:c∈l
     . simp only[hm,cC,cL,decide_eq_false_iff_not]at ih;have h2:(Lib.indexByte l c==-1)=false:=by simp;omega
       simp[h2,hm];omega
     . simp only[hm,cZ,dS,dU]at ih;have h2:(Lib.indexByte l c==-1):=by simp;omega
       simp[h2,hm,hc]
def tm(s:aT):Int×Nat×aT:=match fF.find? λx=>x.isPrefixOf s with|some x=>(0,4,x)|none=>(4,0,[])
def NX(p:Int×Nat×aT):AV:=.az [.agg [co p.2.1,.str p.2.2,bv 0],bv p.1]
def ZK(s:aT)(hs:s.length<=100000):Pure K 150 [.str s] (NX (tm s)):=by
 refine Pure.of rfl rfl (λU=>rfl) λR hR=>?_;refine Xh ?_;dsimp only[Xg,jr,wW,fe,KF,ae,ak,fw,gX,aQ,ah,ar,bX,aC,dr,dA];rw[dh];intro b hb;generalize qK:(cj _).new b _=U;have gz:U.box b=some [co 0,AV.str [],bv 0]:=by rw[<-qK];exact aH
 clear qK hb;have acW:∀{K':am}{Kp:am}{z:List AV}{ps:List (Nat×AV)}{U:St},(cx none (some z) (some (2,9,1)) ps).wp K U K' Kp=(ja (λi=>some (i*1,1)) ps z λz=>.val (.agg z)).wp K U K' Kp:=rfl;rw[acW,eg (o:=0) (s:=1) rfl];refine⟨⟨rfl,rfl,d8⟩,?_⟩;rw[eg (o:=1) (s:=1) rfl];refine⟨⟨rfl,rfl,by simp[ax]⟩,?_⟩;rw[afM];have fin:∀(k:Nat)(x:aT)(e:Int)(ps:List (Nat×AV))(aa:St),aa.box b=some [co 0,AV.str [],bv 0]->ta [(0,1),(1,1),(2,1)] ps [co 0,AV.str [],bv 0]=some [co k,.str x,bv 0]->tm s=(e,k,x) ->
  (cx (some [(0,1),(1,1),(2,1)]) (some [co 0,AV.str [],bv 0]) none ps).wp K aa (λv U=>(dD (some (true,3)) (.box b 0) v U).wp K U (λ_ U=>fV (some (true,3)) (.box b 0) U λr0=>aq R (.az [r0,bv e]) U) (aD R)) (aD R):=by
  intro k x e ps aa fi h1 h2;refine jC _ h1 ?_;rw[cV fi];refine⟨⟨rfl,rfl,d8⟩,?_⟩;rw[rP aZ];refine⟨by simp[ax],?_⟩;rw[h2]at hR;exact aq.eq (hR _) rfl
 refine⟨λm v0 v2 v6 v7 aa=>∃i:Nat,m=2-i/\i<=2/\v0=.str s/\v2=.box b 0/\v6=.agg [.str bY,.str gn]/\v7=bv i/\aa.box b=some [co 0,AV.str [],bv 0]/\(0<i->bY.isPrefixOf s=false)/\(1<i->gn.isPrefixOf s=false),
  ⟨2,0,rfl,d6,rfl,rfl,rfl,rfl,gz,d8,d8⟩,?_⟩
 rintro m v0 v2 v6 v7 aa ⟨i,rfl,hi,rfl,rfl,rfl,rfl,fi,Ay,Az⟩;simp only[aY,ad,bp];refine⟨λaA=>?_,λgL=>?_⟩
 . have aA:i<2:=by omega
   obtain rfl|rfl:i=0\/i=1:=by omega
   . simp only[fL,wp_cond];refine⟨d6,?_⟩;simp only[show ((0:Nat):Int).toNat*1=0 from rfl,List.drop,kn,ad];refine (Ap s bY).go ?_;cases hp:bY.isPrefixOf s with
     | true =>
       simp only[aL];refine fin 4 bY 0 _ aa fi rfl ?_;simp[tm,B7,hp]
     | false =>
       simp only[aG,cF];exact⟨aX d6 d6,1,d6,1,rfl,d6,rfl,rfl,rfl,rfl,fi,λ_=>by first|exact hp|trivial,d8⟩
   . simp only[fL,wp_cond];refine⟨d6,?_⟩;simp only[show ((1:Nat):Int).toNat*1=1 from rfl,List.drop,kn,ad];refine (Ap s gn).go ?_;cases hp:gn.isPrefixOf s with
     | true =>
       simp only[aL];refine fin 4 gn 0 _ aa fi rfl ?_;simp[tm,B7,hp,Ay d6]
     | false =>
       simp only[aG,cF];exact⟨aX d6 d6,0,d6,2,rfl,d6,rfl,rfl,rfl,rfl,fi,λ_=>Ay d6,λ_=>by first|exact hp|trivial⟩
 . have hi2:i=2:=by omega
   subst hi2;have p0:=Ay d6;have p1:=Az d6;simp only[hU,ad,aF,aw];cases s with
   | nil =>
     simp only[show w_=([]:List UInt8) from rfl,cC,show (true==false)=false from rfl,bB,av,if_true,ad,aL];exact fin 0 [] 4 _ aa fi rfl rfl
   | cons c r =>
     have cD:¬ (c::r=w_):=by simp[show w_=([]:List UInt8) from rfl]
     simp only[cD,cZ,eG,bO,ao,vN,iI,av,bW,if_false,ad];refine⟨d8,_,AG fG c.toNat,?_⟩;simp only[aY,ao,av,bW,if_false,ad];have hcc:((c.toNat:Int).toNat).toUInt8=c:=by simp
     rw[hcc,ME];cases hm:decide (c∈fG) with
     | false =>
       have Uc:¬ c∈fG:=by simpa using hm
       simp only[dS,aL];refine fin 0 [] 4 _ aa fi rfl ?_;simp[tm,B7,p0,p1,Uc]
     | true =>
       have Uc:c∈fG:=by simpa using hm
       simp only[cL,aG,nz,kj,gp,wp_cond,ad];refine⟨⟨d6,d6,by simp;omega⟩,?_⟩;refine fin 4 [c] 0 _ aa fi rfl ?_;simp[tm,B7,p0,p1,Uc]
def MT(s:aT):∀l:List aT,pM .s (.str s) ci false (l.map .str) (l.map λ_=>.bool true)=.val (.bool (decide (s∈l)))
 | []=>by simp[pM]
 | x::l=>by
   simp only[fh,pM,jZ]
   by_cases h:s=x
   . subst h;simp
   . rw[show (s==x)=false by simp[h]];have:=MT s l;simp only[bW,if_false,this];simp[h]
def aab:HS=.iK (j0.map .str) (j0.map λ_=>.bool true):=rfl
def SX(s:aT)(U:St):fK (some (.s,4)) (some ci) HS (.str s) false U=.val (.bool (decide (s∈j0))):=by
 rw[aab];simp only[fK,mM,sR];exact MT s j0
def GG(s:aT)(hs:s.length<=100000):Pure K 77 [.str s] (NX (hY s)):=by
 refine Pure.of rfl rfl (λU=>rfl) λR hR=>?_;refine acx ?_;dsimp only[adZ,ae,ak,fw,ah,ar,ej,fW,aC,dm,dr,dA];rw[dh];intro b hb;generalize qK:(cj _).new b _=U;have gz:U.box b=some [co 0,AV.str [],bv 0]:=by rw[<-qK];exact aH
 clear qK hb;refine (run_pure s hs).go ?_;have td:s.take (s.takeWhile dp).length=s.takeWhile dp:=by
  have:=vb dp (l:=s);exact (List.prefix_iff_eq_take.1 this).symm
 have hle:(s.takeWhile dp).length<=s.length:=(vb dp).length_le;simp only[nz,kj,gp,wp_cond,ad,ez,td,show (0:Int).toNat=0 from rfl,eR,hU,bp];refine⟨⟨d6,d6,d6⟩,λh0=>?_,λh0=>?_⟩
 . have h0:s.takeWhile dp=[]:=h0;refine (ZK s hs).go ?_;simp only[NX,bN,List.drop,bI];rw[cV gz];refine⟨⟨rfl,rfl,d8⟩,?_⟩;rw[rP aZ];refine⟨by simp[ax],aq.eq (hR _) ?_⟩;have:hY s=tm s:=by unfold hY tm;rw[h0];rfl
   rw[this];rfl
 . cases hw:s.takeWhile dp with
   | nil=>exact absurd hw h0
   | cons c r =>
     have hlw:(c::r).length<=s.length:=by rw[<-hw];exact hle
     have ht:hY s=if fE c then (mO (c::r),2,c::r) else if lY c=false then (4,0,[]) else if (c::r)∈j0 then (0,3,c::r) else if 12<(c::r).length then (4,0,[]) else (0,1,c::r):=by
      unfold hY;rw[hw]
     have fin:∀(k:Nat)(x:aT)(e:Int)(zs:List AV)(aa:St),zs=[co k,.str x,bv 0]->aa.box b=some [co 0,AV.str [],bv 0]->hY s=(e,k,x) ->
      (dD (some (true,3)) (.box b 0) (.agg zs) aa).wp K aa (λ_ U=>fV (some (true,3)) (.box b 0) U λr0=>aq R (.az [r0,bv e]) U) (aD R):=by
      intro k x e zs aa hz fi h2;subst hz;rw[cV fi];refine⟨⟨rfl,rfl,d8⟩,?_⟩;rw[rP aZ];refine⟨by simp[ax],?_⟩;rw[h2]at hR;exact aq.eq (hR _) rfl
     have one:∀(cl:Int)(K':am)(aa:St),K' (.bool (decide (cls c.toNat∈[cl]))) aa ->
      (fL true none none (.str (c::r)) (bv 0)).wp K aa (λzo U=>(ai (some (178,1)) (some [bv 0]) 1 false [(0,(bv cl))]).wp K U (λrB U=>ag K 151 [zo,rB] U (bD K' (aD R))) (aD R)) (aD R):=by
      intro cl K' aa h;rw[sZ];refine⟨⟨d6,d8⟩,?_⟩;rw[fN];refine⟨d6,?_⟩;rw[eg (o:=0) (s:=1) rfl];refine⟨⟨rfl,rfl,by simp[bZ]⟩,?_⟩;rw[gS];refine⟨rfl,?_⟩;exact (BB c.toNat .full [cl] d8).go h
     refine one 2 _ _ ?_;rw[JL];cases hd:fE c with
     | true =>
       simp only[aL];refine jC [co 2,.str (c::r),bv 0] rfl ?_;refine (ON (c::r) d6).go ?_;exact fin 2 (c::r) _ _ _ rfl gz (by rw[ht,if_pos hd])
     | false =>
       simp only[aG];refine one 3 _ _ ?_;rw[UB];simp only[db,ad];have tE:¬ (fE c):=by rw[hd];simp
       cases lg:lY c with
       | false =>
         simp only[dS,aL];refine jC [co 0,.str [],bv 0] rfl ?_;exact fin 0 [] _ _ _ rfl gz (by rw[ht,if_neg tE,if_pos lg])
       | true =>
         have fj:¬ (lY c=false):=by rw[lg];simp
         simp only[cL,aG];refine HU.go ?_;simp only[SX,ad,bp,ia,dq];refine⟨λhk=>?_,λhk=>⟨λhl=>?_,λhl=>?_⟩⟩
         . refine jC [co 3,.str (c::r),bv 0] rfl ?_;exact fin 3 (c::r) _ _ _ rfl gz (by rw[ht,if_neg tE,if_neg fj,if_pos hk])
         . refine jC [co 0,.str [],bv 0] rfl ?_;exact fin 0 [] _ _ _ rfl gz (by rw[ht,if_neg tE,if_neg fj,if_neg hk,if_pos d6])
         . refine jC [co 1,.str (c::r),bv 0] rfl ?_;exact fin 1 (c::r) _ _ _ rfl gz (by rw[ht,if_neg tE,if_neg fj,if_neg hk,if_neg d6])
def HH(u:aT):(Lib.indexByte u 10=-1/\u.takeWhile (λc=>c.toNat≠10)=u)\/∃k:Nat,Lib.indexByte u 10=k/\k<u.length/\u.takeWhile (λc=>c.toNat≠10)=u.take k:=by
 have n0:∀c:UInt8,c.toNat=10↔c=10:=λc=>⟨λh=>UInt8.toNat_inj.1 h,λh=>by rw[h];rfl⟩
 induction u with
 | nil=>left;exact⟨rfl,rfl⟩
 | cons b u ih =>
   unfold Lib.indexByte
   by_cases hb:b=10
   . right;refine⟨0,by simp[hb],d8,?_⟩;rw[om];simp[(n0 b).2 hb]
   . have fi:(b==10)=false:=by simp[hb]
     have hn:(decide (b.toNat≠10)):=by simp[n0,hb]
     rw[om,hn];rcases ih with ⟨h1,h2⟩|⟨k,h1,h2,h3⟩
     . left;rw[h1,h2];simp[fi]
     . right;refine⟨k+1,?_,by simp;omega,?_⟩
       . rw[h1,fi];have:((k:Int)==-1)=false:=by simp
         simp[this]
       . simp only[if_true,List.take_succ_cons,h3]
def aaq(u:aT)(hu:u.length<=100000):∃y z,Pure K 148 [.str u,.str pV] (.az [.str (u.takeWhile λc=>c.toNat≠10),y,z]):=by
 have go:∀x y z,Pure K 212 [.str u,.str pV] (.az [x,y,z])->Pure K 148 [.str u,.str pV] (.az [x,y,z]):=λx y z h U R hR=>by
  refine Xd ?_;dsimp only[Xc,ae,ah,dm];refine h.go ?_;simp only[bN,List.drop,bI];exact aq.mk hR
 have hi:=AH u 10;rcases HH u with ⟨h1,h2⟩|⟨k,h1,h2,h3⟩
 . refine⟨_,_,go _ (.str w_) ci λU R hR=>?_⟩;refine Kq ?_;dsimp only[NF,ae,ak,ah,ar,mX,kN];refine hi.go ?_;rw[h1];simp only[eX,ad,show decide ((0:Int)<=-1)=false from rfl,aG];rw[h2]at hR;exact aq.mk hR
 . refine⟨_,_,go _ (.str (u.drop (k+1))) ce λU R hR=>?_⟩;refine Kq ?_;dsimp only[NF,ae,ak,ah,ar,mX,kN];refine hi.go ?_;rw[h1];have h0:decide ((0:Int)<=(k:Nat)):=by simp
   simp only[eX,ad,h0,aL,nz,kj,gp,jB,ao,ia,BZ,show (pV:List UInt8).length=1 from rfl,ez];refine⟨⟨d6,d6,d6⟩,aX d6 d6,⟨d6,d6,d6⟩,?_⟩;rw[h3]at hR;refine aq.eq hR ?_;have e1:((k:Int)+((1:Nat):Int)).toNat=k+1:=by omega
   simp[e1]
variable {l:List Tk}{b:Nat}{U:St}
def aew{R:bi}{n:Nat}{c:nj}{t:Tk}{a:AV}(hb:U.box b=some [.vec n c (gu (l++[t]))])(hn:n=l.length+1)(hl:l.length<=900)(h:R (.ret (bv t.s.length)) U):ag K 75 [a,.box b 0] U R:=by
 refine acv ?_;subst hn;dsimp only[adX,bg,ah,ar,eN,iH,cJ,aC];simp only[gJ hb,List.drop,bI,u1,ad,s0];refine⟨aX d6 d6,?_⟩;rw[sv];refine⟨d6,?_⟩;have e:(((l.length+1:Nat):Int)-1).toNat=l.length:=by omega
 rw[e];obtain⟨r,hr⟩:=vo (L:=l++[t]) (i:=l.length) (t:=t) d8;rw[hr];simp only[dX,ad,jD,ke,List.drop,ln,bI,ia];exact aq.mk h
def pz(l:List Tk):AV:=if l=[] then .af else .vec l.length .lC (gu l)
def vP(l l':List Tk):gu (l++l')=gu l++gu l':=by simp[gu]
structure TI (U:St) (b1 b2 b3 b4 b7 bs bd:Nat) (s:aT) (l:List Tk):Prop where
 h1:U.box b1=some [.str s]
 h2:∃x,U.box b2=some [x]
 h3:∃x,U.box b3=some [x]
 h4:∃x,U.box b4=some [x]
 h7:∃v,U.box b7=some [v]/\Grow U v 51 3 l.length (gu l)/\(l=[]->v=.af)
 hs:U.box bs=some [.str s]
 hd:U.box bd=some [.func (.func 75) [] [.box b7 0]]
variable {aa:St}
def iX(h:aa.live b=U.live b):aa.loop b=U.loop b:=by simp[St.loop,h]
variable {L:iu}
def iD:(U.set b (.loop L)).loop b=some L:=by simp[St.loop,eM]
def zL:(U.new b (.loop L)).loop b=some L:=by simp[St.loop,oK]
def cQ{b':Nat}{l:List AV}(h:U.box b=some l)(k:U.loop b'=some L):b≠b':=by
 rintro rfl;unfold St.box at h;unfold St.loop at k;split at k
 . rename_i e;simp[e]at h
 . cases k
def vQ{b':Nat}{l:Tok}(h:U.tok b=some l)(k:U.loop b'=some L):b≠b':=by
 rintro rfl;unfold St.tok at h;unfold St.loop at k;split at k
 . rename_i e;simp[e]at h
 . cases k
def TI.ve{b1 b2 b3 b4 b7 bs bd o:Nat}(T:TI U b1 b2 b3 b4 b7 bs bd s l){L':iu}(hL:U.loop o=some L):TI (U.set o (.loop L')) b1 b2 b3 b4 b7 bs bd s l:=by
 have k:∀{b:Nat}{x:List AV},U.box b=some x->(U.set o (.loop L')).box b=some x:=λh=>by rw[bf (cQ h hL)];exact h
 obtain⟨v,g1,g2,g3⟩:=T.h7;refine⟨k T.h1,T.h2.imp λ_ h=>k h,T.h3.imp λ_ h=>k h,T.h4.imp λ_ h=>k h,⟨v,k g1,?_,g3⟩,k T.hs,k T.hd⟩;rcases g2 with g2|⟨τ,e,ht,hl⟩
 . exact .inl g2
 . exact .inr ⟨τ,e,by rw[jk (vQ ht hL)];exact ht,hl⟩
def TI.tT{b1 b2 b3 b4 b7 bs bd:Nat}(T:TI U b1 b2 b3 b4 b7 bs bd s l)(e:dt U aa):TI aa b1 b2 b3 b4 b7 bs bd s l:=by
 obtain⟨v,g1,g2,g3⟩:=T.h7;refine⟨e.bq T.h1,T.h2.imp λ_ h=>e.bq h,T.h3.imp λ_ h=>e.bq h,T.h4.imp λ_ h=>e.bq h,⟨v,e.bq g1,?_,g3⟩,e.bq T.hs,e.bq T.hd⟩;rcases g2 with g2|⟨τ,e1,ht,hl⟩
 . exact .inl g2
 . exact .inr ⟨τ,e1,e.tok ht,hl⟩
def Pure.of'{f:Nat}{args:List AV}{x:AV}(hargs:cW args)(hx:closed x)
 (h:∀R:bi,(∀v aa,resolve 5 aa v=x->R (.ret v) aa)->ag K f args (cj ⟨.e,0⟩) R):Pure K f args x :=
 Pure.Ew vF hargs hx 5 (h _ λv aa e=>⟨v,rfl,e⟩)
def OY(n:Nat)(U:St)(l:List Tk):(gu l).map (resolve (n+1) U)=gu l:=by
 induction l with
 | nil=>rfl
 | cons t l ih =>
   show ((jD t++gu l).map (resolve (n+1) U))=jD t++gu l;rw[List.map_append,ih];rfl
def Q9(l:List Tk):cW (gu l):=by
 induction l with
 | nil=>rfl
 | cons t l ih=>show cW (jD t++gu l)=true;simp[jD,cW,closed,ih]
def EO(l:List Tk):closed (pz l):=by
 unfold pz;split
 . rfl
 . exact Q9 l
def DO{v:AV}(n:Nat)(h:Grow U v 51 3 l.length (gu l))(h0:l=[]->v=.af):resolve (n+2) aa v=pz l:=by
 unfold pz;split
 . rename_i e;rw[h0 e];rfl
 . rename_i e;rcases h with ⟨h1,_,_⟩|⟨τ,rfl,_,_⟩
   . exact absurd (ti.1 h1) e
   . show AV.vec l.length .lC ((gu l).map (resolve (n+1) aa))=_;rw[OY]
def qh:Lh->AV
 | .ok l=>.az [pz l,bv 0,bv 0]
 | .bad p e=>.az [.af,bv p,bv e]
def dt.loop(h:dt U aa)(k:U.loop b=some L):aa.loop b=some L:=by
 cases e:U.live b with
 | none=>simp[St.loop,e]at k
 | some x=>rw[iX ((h b x e).trans e.symm)];exact k
def ly{v:AV}{e sz n:Nat}{l:List AV}(g:Grow U v e sz n l)(e1:∀b x,(∀n l,v≠.vec n (.own b) l)->U.live b=some x->aa.live b=some x) :
 (∀{b:Nat}{x:List AV},U.box b=some x->aa.box b=some x)/\(∀{b:Nat}{L:iu},U.loop b=some L->aa.loop b=some L):=by
 refine⟨λ{b x}h=>?_,λ{b L}h=>?_⟩
 . cases e:U.live b with
   | none=>exact absurd e (cN h)
   | some y =>
     have:=e1 b y (λn' l' hv=>by
      rcases g with ⟨_,_,g⟩|⟨τ,g,ht,_⟩
      . rw[g]at hv;cases hv
      . rw[g]at hv;cases hv;exact fY h ht rfl) e
     rw[eE (this.trans e.symm)];exact h
 . cases e:U.live b with
   | none=>simp[St.loop,e]at h
   | some y =>
     have:=e1 b y (λn' l' hv=>by
      rcases g with ⟨_,_,g⟩|⟨τ,g,ht,_⟩
      . rw[g]at hv;cases hv
      . rw[g]at hv;cases hv;exact vQ ht h rfl) e
     rw[iX (this.trans e.symm)];exact h
def st3{b2 b3 b4:Nat}{lv:AV}{p e:Int}{K':am}{Kp:am}(h2:∃x,U.box b2=some [x])(h3:∃x,U.box b3=some [x])(h4:∃x,U.box b4=some [x])(MZ:b2≠b3)(Hj:b2≠b4)(M0:b3≠b4)(hl:lv.dC/\al lv=[lv])
 (h:∀jn,jn.box b2=some [lv]->jn.box b3=some [bv p]->jn.box b4=some [bv e]->(∀b,b≠b2->b≠b3->b≠b4->jn.live b=U.live b)->K' (.az []) jn) :
 (dD (some (false,1)) (.box b2 0) lv U).wp K U (λ_ U=>(dD (some (false,1)) (.box b3 0) (bv p) U).wp K U (λ_ U=>(dD (some (false,1)) (.box b4 0) (bv e) U).wp K U K' Kp) Kp) Kp:=by
 obtain⟨x2,h2⟩:=h2;obtain⟨x3,h3⟩:=h3;obtain⟨x4,h4⟩:=h4;rw[cV h2];refine⟨⟨hl.1,by rw[hl.2];rfl,d8⟩,?_⟩;rw[cV (show (U.set b2 _).box b3=some [x3] by rw[bf MZ.symm];exact h3)];refine⟨⟨rfl,rfl,d8⟩,?_⟩;rw[cV (show ((U.set b2 _).set b3 _).box b4=some [x4] by rw[bf M0.symm,bf Hj.symm];exact h4)];refine⟨⟨rfl,rfl,d8⟩,h _ ?_ ?_ ?_ λb m2 m3 m4=>?_⟩
 . rw[bf Hj,bf MZ,aZ,hl.2];rfl
 . rw[bf M0,aZ];rfl
 . rw[aZ];rfl
 . rw[eM,if_neg m4,eM,if_neg m3,eM,if_neg m2]
def Fv(s:aT)(hs:s.length<=3000):Pure K 33 [.str s] (qh (lF s)):=by
 refine Pure.of' rfl (by cases lF s with|ok l=>simp[qh,closed,cW,EO]|bad p e=>rfl) λR hR=>?_
 refine ab5 ?_;dsimp only[adA,eh,zgl,zu,ae,ak,ahC,fw,ahE,aQ,ah,Ec,Ed,dj,ar,cw,dI,iH,bX,ej,cn,aC,dm,dr,dA];rw[fg rfl];intro b1 gz;rw[dh];intro b2 iq;rw[dh];intro b3 kF;rw[dh];intro b4 kG;have n12:b1≠b2:=iq.cA aH;have g1:=aH (U:=cj ⟨.e,0⟩) (b:=b1) (l:=al (.str s));generalize aa8:(cj _).new b1 _=aK at *;have g1':=(bK iq (x:=.box [.af])).bq g1;have g2:=aH (U:=aK) (b:=b2) (l:=[.af]);generalize aa9:aK.new b2 _=aV at *;have agl:=(bK kF (x:=.box [bv 0])).bq g1';have g2':=(bK kF (x:=.box [bv 0])).bq g2;have g3:=aH (U:=aV) (b:=b3) (l:=[bv 0]);have MZ:b2≠b3:=kF.cA g2;generalize aj4:aV.new b3 _=bG at *;have k1:=(bK kG (x:=.box [bv 0])).bq agl;have k2:=(bK kG (x:=.box [bv 0])).bq g2';have k3:=(bK kG (x:=.box [bv 0])).bq g3;have k4:=aH (U:=bG) (b:=b4) (l:=[bv 0]);have Hj:b2≠b4:=kG.cA g2';have M0:b3≠b4:=kG.cA g3;generalize MC:bG.new b4 _=cI at *;clear aa8 aa9 aj4 MC g1 g1' agl g2 g2' g3 gz iq kF kG
 replace k1:cI.box b1=some [.str s]:=k1
 have fin:∀(aa:St)(lv:AV)(p e:Int),aa.box b2=some [lv]->aa.box b3=some [bv p]->aa.box b4=some [bv e]->(∀jn,resolve 5 jn (.az [lv,bv p,bv e])=qh (lF s)) ->
  fV (some (false,1)) (.box b2 0) aa λr0=>fV (some (false,1)) (.box b3 0) aa λr1=>fV (some (false,1)) (.box b4 0) aa λr2=>aq R (.az [r0,r1,r2]) aa:=by
  intro aa lv p e m2 m3 m4 hres;rw[B2 m2 (eR),B2 m3 (eR),B2 m4 (eR)];exact aq.mk (hR _ _ (hres _))
 simp only[gJ k1,Jd,List.drop,bI];refine (aap s).go ?_;simp only[bN,List.drop,bI,ck,ad];have fS:lF s=if (pG s).2≠0 then .bad (pG s).1 (pG s).2 else iy s.length s 0 []:=rfl
 by_cases he:(pG s).2=0
 . simp only[he,cC,cL,aG];rw[if_neg (by simp[he])]at fS;rw[dh];intro b7 oT;have n71:=(oT.cA k1).symm;have n72:=(oT.cA k2).symm;have n73:=(oT.cA k3).symm;have n74:=(oT.cA k4).symm;have e5:=bK oT (x:=.box [.af]);have m7:=aH (U:=cI) (b:=b7) (l:=[.af]);generalize aj5:cI.new b7 _=dc at *;rw[gJ (e5.bq k1),eR,bI];refine acw ?_;dsimp only[adY,ah,dI];rw[fg rfl];intro bs TS;have n7s:=TS.cA m7;have e6:=bK TS (x:=.box (al (.str s)));have ms:=aH (U:=dc) (b:=bs) (l:=al (.str s));generalize aj6:dc.new bs _=jg at *;rw[fg rfl];intro bd hbd;have n7d:=hbd.cA (e6.bq m7);have e7:=bK hbd (x:=.box (al (.func (.func 75) [] [.box b7 0])));have md:=aH (U:=jg) (b:=bd) (l:=al (.func (.func 75) [] [.box b7 0]));generalize aj7:jg.new bd _=gZ at *;refine aq.mk ?_;refine⟨by kernel_rfl,λo L ho L6 TQ Y=>?_⟩;have Tw:=e5.trans (e6.trans e7);have T7:TI gZ b1 b2 b3 b4 b7 bs bd s []:=⟨Tw.bq k1,⟨_,Tw.bq k2⟩,⟨_,Tw.bq k3⟩,⟨_,Tw.bq k4⟩,⟨_,(e6.trans e7).bq m7,.inl ⟨rfl,rfl,rfl⟩,λ_=>rfl⟩,e7.bq ms,md⟩;have T8:=T7.tT (bK ho (x:=.loop L));have L8:=zL (U:=gZ) (b:=o) (L:=L);generalize aj8:gZ.new o _=pE at *;clear aj5 aj6 aj7 aj8 T7 Tw e5 e6 e7 m7 ms md ho hbd TS oT k1 k2 k3 k4;refine Xb ?_;dsimp only[Xa,ae,ak,Eb,gX,aQ,ah,ar,ca,iH,fW,aC,dm];refine⟨λm v0 v1 v2 v4 aa=>∃f p l,m=s.length-p/\v0=.uK o/\v1=.box bs 0/\v2=.box bd 0/\v4=bv (p:Nat)/\p<=s.length/\s.length-p<=f/\l.length<=900/\iy f s p l=lF s/\TI aa b1 b2 b3 b4 b7 bs bd s l/\∃L1,aa.loop o=some L1/\L1.st .ready none=L/\L1.state=.ready/\L1.iL=none,
    ⟨_,s.length,0,[],rfl,rfl,rfl,rfl,rfl,d6,d6,d8,fS.symm,T8,L,L8,by cases L;simp_all [iu.st],L6,TQ⟩,?_⟩
   clear T8 L8 fS he;rintro m v0 v1 v2 v4 rF ⟨f,p,l,rfl,rfl,rfl,rfl,rfl,hp,hf,Jx,fS,T,L1,lz,ji,Fb,Fa⟩;rw[gJ T.hs,eR,bI];simp only[ia,ad,aY,bp];refine⟨λaA=>?_,λgL=>?_⟩
   . have aA:p<s.length:=by omega
     have wP:s.drop p=s[p]::s.drop (p+1):=gI aA;cases f with
     | zero=>omega
     | succ f =>
     simp only[iy]at fS;rw[wP]at fS;simp only at fS;rw[gJ T.hs,eR,bI,sZ];refine⟨d6,?_⟩;rw[ez,getD_at aA];intro jj uH;have c32:((s[p].toNat:Int)=32)=(s[p].toNat=32):=by simp;omega
     have c10:((s[p].toNat:Int)=10)=(s[p].toNat=10):=by simp;omega
     have ajh:((s[p].toNat:Int)=126)=(s[p].toNat=126):=by simp;omega
     have blank:s[p].toNat=32\/s[p].toNat=10->jj (.uK o) (.box bs 0) (.box bd 0) (bv (p:Nat)) (co s[p].toNat) ce rF:=λh=>by
      refine uH _ _ _ _ _ _ _ ?_;rw[if_pos h]at fS;simp only[aL,cF];exact⟨aX d6 d6,_,d6,f,p+1,l,rfl,rfl,rfl,rfl,d8,d6,d6,Jx,fS,T,L1,lz,ji,Fb,Fa⟩
     have other:¬ (s[p].toNat=32\/s[p].toNat=10)->jj (.uK o) (.box bs 0) (.box bd 0) (bv (p:Nat)) (co s[p].toNat) ci rF:=λh=>by
      refine uH _ _ _ _ _ _ _ ?_;rw[if_neg h]at fS;simp only[aG,aN,ad,bp,ajh];have after:∀{jn:St}{L2:iu},L2={ L1 with state:=.ready,iL:=none }->L2.st .ready none=L/\L2.state=.ready/\L2.iL=none:=λh=>by
       subst h;exact⟨by rw[<-ji];rfl,rfl,rfl⟩
      refine⟨λC4=>?_,λC4=>?_⟩
      . rw[if_pos C4]at fS;rw[gJ T.hs,eR,bI];have hdn:((s.take s.length).drop p)=s[p]::s.drop (p+1):=by rw[oO,wP]
        simp only[nz,kj,gp,wp_cond,ad,ez,hdn];refine⟨⟨d6,d6,d6⟩,?_⟩;obtain⟨y,z,ajw⟩:=aaq (s[p]::s.drop (p+1)) (by rw[<-wP];simp;omega);refine ajw.go ?_;have hlen:((s[p]::s.drop (p+1)).takeWhile λc=>c.toNat≠10).length<=s.length-p:=by
         rw[<-wP];exact Nat.le_trans (vb _).length_le d8
        have cD:1<=((s[p]::s.drop (p+1)).takeWhile λc=>c.toNat≠10).length/\((s[p]::s.drop (p+1)).takeWhile λc=>c.toNat≠10)≠[]:=by
         rw[om];simp[C4]
        generalize ((s[p]::s.drop (p+1)).takeWhile λc=>c.toNat≠10)=nt at *;simp only[bN,List.drop,bI];simp only[kQ,Cf];refine Y _ _ _ L1 rfl lz ji ?_;refine⟨L1,lz,Fb,?_⟩;have hnn:¬ nt=w_:=cD.2;simp only[nr,ad,hnn,cZ,dS,aL];refine⟨_,iD,?_⟩;simp only[bh,db,ad,cL,aG,ia,cF];refine⟨aX d6 d6,_,?_,f,p+nt.length,l,rfl,rfl,rfl,rfl,d8,d6,d6,Jx,fS,(T.ve lz).ve iD,_,iD,?_⟩
        . omega
        . exact⟨by rw[<-ji];rfl,rfl,rfl⟩
      . rw[if_neg C4]at fS;simp only[kQ,Cf];refine Y _ _ _ L1 rfl lz ji ?_;refine⟨L1,lz,Fb,?_⟩;have T2:=T.ve (L':={ L1 with state:=.busy }) lz
        have L2:(rF.set o (.loop { L1 with state:=.busy })).loop o=some { L1 with state:=.busy }:=iD
        generalize aiw:rF.set o (.loop { L1 with state:=.busy })=sw at *
        simp only[nr,ad,cC,cL,aG];rw[gJ T2.h1,eR,bI];have hdn:((s.take s.length).drop p)=s[p]::s.drop (p+1):=by rw[oO,wP]
        simp only[nz,kj,gp,wp_cond,ad,ez,hdn];refine⟨⟨d6,d6,d6⟩,?_⟩;refine (GG (s[p]::s.drop (p+1)) (by rw[<-wP];simp;omega)).go ?_;cases kI:hY (s[p]::s.drop (p+1)) with
        | mk e kt =>
        obtain⟨k,tx⟩:=kt;rw[kI]at fS;simp only at fS;simp only[NX,bN,List.drop,bI];rw[dh];intro mA zE;have g11:(sw.new mA (.box [co 0,AV.str [],bv 0])).box mA=some [co 0,AV.str [],bv 0]:=aH;rw[cV g11];refine⟨⟨rfl,rfl,d8⟩,?_⟩;have E12:=((dt.refl sw).new zE (x:=.box [co 0,AV.str [],bv 0])).set (x:=.box (ax [co 0,AV.str [],bv 0] 0 (al (.agg [co (k:Nat),.str tx,bv 0])))) zE.1;have m11:((sw.new mA (.box [co 0,AV.str [],bv 0])).set mA (.box (ax [co 0,AV.str [],bv 0] 0 (al (.agg [co (k:Nat),.str tx,bv 0]))))).box mA=some [co (k:Nat),.str tx,bv 0]:=by rw[aZ];rfl
        have n117:b7≠mA:=zE.cA (T2.h7.choose_spec.1);generalize (sw.new mA (.box [co 0,AV.str [],bv 0])).set mA (.box (ax [co 0,AV.str [],bv 0] 0 (al (.agg [co (k:Nat),.str tx,bv 0]))))=vy at *;have T3:=T2.tT E12;have L3:=E12.loop L2;have ah8:∀(b:Nat)(x:List AV),sw.box b=some x->b≠mA:=λb x h=>zE.cA h;clear E12 g11 zE aiw;intro j hj;obtain⟨v,q1,q2,q3⟩:=T3.h7;have cont:∀e':Int,(e'≠0->lF s=.bad p e')->(e'=0->l.length<900/\0<tx.length/\iy f s (p+tx.length) (l++[⟨k,tx,p⟩])=lF s)->(e'=0->e=0)->j (.box b2 0) (.box b3 0) (.box b4 0) (.box b7 0) (bv (p:Nat)) (.box mA 0) (bv e') vy:=by
         intro e' aaV aih agC;refine hj _ _ _ _ _ _ _ _ ?_
         by_cases n6:e'=0
         . obtain⟨ak1,mT,Ub⟩:=aih n6;simp only[n6,ck,ad,cC,cL,aG,aP,cK];rw[cV m11];refine⟨⟨rfl,rfl,d8⟩,?_⟩;have kp:∀{b:Nat}{x:List AV},b≠mA->vy.box b=some x->(vy.set mA (.box (ax [co (k:Nat),.str tx,bv 0] 2 (al (bv (p:Nat)))))).box b=some x:=λh1 h2=>by rw[bf h1];exact h2
           rw[gJ (kp n117 q1),eR,bI];rw[mK aZ];refine⟨by simp[ax],?_⟩;have q2':Grow (vy.set mA (.box (ax [co (k:Nat),.str tx,bv 0] 2 (al (bv (p:Nat)))))) v 51 3 l.length (gu l):=by
            rcases q2 with q2|⟨τ,r1,r2,r3⟩
            . exact .inl q2
            . exact .inr ⟨τ,r1,by rw[jk (fY m11 r2).symm];exact r2,r3⟩
           have CX:∀{b:Nat}{x:List AV},vy.box b=some x->b≠mA->(vy.set mA (.box (ax [co (k:Nat),.str tx,bv 0] 2 (al (bv (p:Nat)))))).box b=some x:=λh1 h2=>kp h2 h1;have l11:(vy.set mA (.box (ax [co (k:Nat),.str tx,bv 0] 2 (al (bv (p:Nat)))))).loop o=some { L1 with state:=.busy }:=by
            rw[iX];exact L3;rw[eM,if_neg (cQ m11 L3).symm]
           have L7:(List.take 3 (List.drop 0 (ax [co (k:Nat),.str tx,bv 0] 2 (al (bv (p:Nat))))))=jD ⟨k,tx,p⟩:=by simp[ax,jD]
           rw[L7];generalize vy.set mA (.box (ax [co (k:Nat),.str tx,bv 0] 2 (al (bv (p:Nat)))))=ac1 at *;rw[fN];refine⟨d6,?_⟩;rw[eg (o:=0) (s:=3) rfl];refine⟨⟨rfl,rfl,by simp[bZ]⟩,?_⟩;rw[gS];refine⟨rfl,?_⟩;have q1':=CX q1 n117;refine Ce (m:=1) (l2:=jD ⟨k,tx,p⟩) q2' rfl rfl d6 d6 (λh=>q3 (ti.1 h)) λIZ v' g1 g2 g3=>?_;obtain⟨kb,kl⟩:=ly q2' g2;have G6:v'.dC/\al v'=[v']:=by
            rcases g1 with ⟨_,_,rfl⟩|⟨τ,rfl,_,_⟩<;>exact⟨rfl,rfl⟩
           rw[cV (kb q1')];refine⟨⟨G6.1,by rw[G6.2];rfl,d8⟩,?_⟩;have kk:∀{b:Nat}{x:List AV},b7≠b->IZ.box b=some x->(IZ.set b7 (.box (ax [v] 0 (al v')))).box b=some x:=λh1 h2=>by rw[bf h1.symm];exact h2
           have lo:(IZ.set b7 (.box (ax [v] 0 (al v')))).loop o=some { L1 with state:=.busy }:=by
            rw[iX];exact kl l11;rw[eM,if_neg (cQ (kb q1') (kl l11)).symm]
           have H0:∀{b:Nat}{x:List AV},sw.box b=some x->b≠mA:=λh=>ah8 _ _ h;have T5:TI (IZ.set b7 (.box (ax [v] 0 (al v')))) b1 b2 b3 b4 b7 bs bd s (l++[⟨k,tx,p⟩]):=by
            refine⟨kk n71 (kb (CX T3.h1 (H0 T2.h1))),?_,?_,?_,⟨v',by rw[aZ,G6.2];rfl,?_,λh=>by simp at h⟩,kk n7s (kb (CX T3.hs (H0 T2.hs))),kk n7d (kb (CX T3.hd (H0 T2.hd)))⟩
            . obtain⟨x,hx⟩:=T2.h2;obtain⟨y,hy⟩:=T3.h2;exact⟨y,kk n72 (kb (CX hy (H0 hx)))⟩
            . obtain⟨x,hx⟩:=T2.h3;obtain⟨y,hy⟩:=T3.h3;exact⟨y,kk n73 (kb (CX hy (H0 hx)))⟩
            . obtain⟨x,hx⟩:=T2.h4;obtain⟨y,hy⟩:=T3.h4;exact⟨y,kk n74 (kb (CX hy (H0 hx)))⟩
            . have el:(l++[(⟨k,tx,p⟩:Tk)]).length=l.length+1:=by simp
              rw[el,vP];rcases g1 with ⟨h0,_⟩|⟨τ,r1,r2,r3⟩
              . omega
              . exact .inr ⟨τ,r1,by rw[jk (fY (kb q1') r2).symm];exact r2,r3⟩
           have pJ:∃c,v'=.vec (l.length+1) c (gu (l++[⟨k,tx,p⟩])):=by
            rw[vP];rcases g1 with ⟨h0,_⟩|⟨τ,r1,_,_⟩
            . omega
            . exact⟨_,r1⟩
           have h7':(IZ.set b7 (.box (ax [v] 0 (al v')))).box b7=some [v']:=by rw[aZ,G6.2];rfl
           generalize IZ.set b7 (.box (ax [v] 0 (al v')))=akI at *;refine⟨_,lo,?_⟩;have T6:=T5.ve (L':={ L1 with state:=.ready,iL:=none }) lo
           obtain⟨c,hc⟩:=pJ;subst hc;have ajp:(akI.set o (.loop { L1 with state:=.ready,iL:=none })).box b7=some [.vec (l.length+1) c (gu (l++[⟨k,tx,p⟩]))]:=by rw[bf (cQ h7' lo)];exact h7'
           simp only[bh,db,ad,cL,aG];rw[gJ T6.hd,eR,bI];simp only[show gP K.P 75 by kernel_rfl,if_true,nU,mQ,ke];refine aew ajp rfl Jx ?_;simp only[bh,cF];have oy:p+tx.length<=s.length:=by
            have:=(A6 (s:=s[p]::s.drop (p+1)) (k:=k) (t:=tx) (by rw[kI,agC n6])).2.length_le;rw[<-wP]at this;simp at this;omega
           refine⟨aX d6 d6,_,?_,f,p+tx.length,l++[⟨k,tx,p⟩],rfl,rfl,rfl,rfl,d8,oy,d6,by simp;omega,Ub,T6,_,iD,by rw[<-ji];rfl,rfl,rfl⟩;omega
         . simp only[n6,ck,ad,cZ,dS,aL];refine st3 T3.h2 T3.h3 T3.h4 MZ Hj M0 ⟨rfl,rfl⟩ λjn m2 m3 m4 mo=>?_;have ob:∀{b:Nat},(∃x,vy.box b=some [x])->o≠b:=λ⟨x,h⟩=>(cQ h L3).symm;have L4:jn.loop o=some { L1 with state:=.busy }:=by rw[iX (mo o (ob T3.h2) (ob T3.h3) (ob T3.h4))];exact L3
           refine⟨_,L4,?_⟩;simp only[bh,db,ad,dS,aL];refine aq.mk ⟨_,iD,d8,?_⟩;have kp:∀{b:Nat}{x:List AV},o≠b->jn.box b=some x->((jn.set o (.loop { L1 with state:=.done,iL:=some .ret })).del o).box b=some x:=λh1 h2=>by rw[jF h1.symm,bf h1.symm];exact h2
           refine fin _ _ _ _ (kp (ob T3.h2) m2) (kp (ob T3.h3) m3) (kp (ob T3.h4) m4) λbG=>?_;rw[aaV n6];rfl
        have hlen:dK (some false) v=.val (bv l.length):=by
         rcases q2 with ⟨h0,_,rfl⟩|⟨τ,rfl,_,_⟩
         . rw[h0];rfl
         . rfl
        simp only[aN,ad,aF,aw]
        by_cases tX:e=0
        . subst tX;simp only[cC,eG,bO,nM q1,eR,gg,iI,hlen,ao,aN,av,if_true,ad,bp];rw[if_neg d8]at fS;refine⟨λaaU=>?_,λaaU=>?_⟩
          . rw[if_pos d6]at fS;exact cont 5 (λ_=>fS.symm) (λh=>by omega) (λh=>by omega)
          . rw[if_neg d6]at fS;have mT:=(A6 kI).1.1;exact cont 0 (λh=>absurd rfl h) (λ_=>⟨d6,List.length_pos_iff.2 mT,fS⟩) (λ_=>rfl)
        . simp only[tX,cZ,show (false==true)=false from rfl,bB,av,bW,if_false,ad,aG];rw[if_pos tX]at fS;exact cont e (λ_=>fS.symm) (λh=>absurd h tX) (λh=>h)
     simp only[aN,ad,bp,c32,c10];refine⟨λh=>?_,λh=>?_⟩
     . simp only[h,cC];rw[h]at blank;exact blank (.inl rfl)
     . by_cases n0:s[p].toNat=10
       . simp only[n0,cC];rw[n0]at blank;exact blank (.inr rfl)
       . simp only[n0,cZ];exact other (λh1=>h1.elim h n0)
   . have hd0:s.drop p=[]:=List.drop_eq_nil_of_le d6;have Ub:lF s=.ok l:=by
      rw[<-fS];cases f with
      | zero=>rfl
      | succ f=>simp only[iy];rw[hd0]
     refine aq.mk ⟨L1,lz,by rw[Fb];simp,?_⟩;rw[Fa];obtain⟨v,g1,g2,g3⟩:=T.h7;have dl:∀{b:Nat}{x:List AV},rF.box b=some x->(rF.del o).box b=some x:=λh=>by rw[jF (cQ h lz)];exact h
     have hv:v.dC/\al v=[v]:=by
      rcases g2 with ⟨_,_,rfl⟩|⟨τ,rfl,_,_⟩<;>exact⟨rfl,rfl⟩
     show (bj (some (false,1)) (.box b7 0) (rF.del o)).wp K (rF.del o) _ _;rw[gJ (dl g1),eR,bI];refine st3 (T.h2.imp λ_ h=>dl h) (T.h3.imp λ_ h=>dl h) (T.h4.imp λ_ h=>dl h) MZ Hj M0 hv λjn m2 m3 m4 _=>?_;refine fin jn _ _ _ m2 m3 m4 λbG=>?_;rw[Ub];show AV.az [resolve 4 bG v,bv 0,bv 0]=_;rw[DO 2 g2 g3];rfl
 . simp only[he,cZ,dS,aL];rw[if_pos he]at fS;refine st3 ⟨_,k2⟩ ⟨_,k3⟩ ⟨_,k4⟩ MZ Hj M0 ⟨rfl,rfl⟩ λdc m2 m3 m4 _=>?_;exact fin dc _ _ _ m2 m3 m4 λjn=>by rw[fS];rfl
end Go.Rip
