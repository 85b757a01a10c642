/- Lemmas for the proof: no conditions. -/
import Derived.Test.YtnfpmiiopiinbaaGreatDoorRipZz
import Derived.Test.YtnfpmiiopiinbaaGreatDoorRipN
import Derived.Test.YtnfpmiiopiinbaaGreatDoorRipE
import Derived.Test.YtnfpmiiopiinbaaGreatDoorRipF
set_option linter.unusedVariables false
set_option linter.unusedSimpArgs false
set_option linter.loopingSimpArgs false
namespace Go.Rip
open Go.Proofs Go.RowKit
def cls (c:Int):Int:=if c=32\/c=10 then 1 else if c < 32\/c > 126 then 0 else if 48 <= c/\c <= 57 then 2 else if 97 <= c/\c <= 122 then 3 else if 65 <= c/\c <= 90 then 4 else 5
theorem GF (c:Int):Pure K 216 [.int .u8 c] (.int .i64 (cls c)):=by
 intro U R hR
 refine QX ?_
 simp (contextual:=true) only [QW,oI,nD,aT,a7,fD,cx,dT,al,aI,aB,qq,bq,aZ,ax,az,iF,zM,bh,bT,bG,bZ,cE,ite_true,ite_false,beq_true,beq_false,cn,dx,da,if_true,if_false,true_and,and_true,not_true,not_false_iff]
 repeat' (first | refine And.intro ?_ ?_ | intro _)
 all_goals (refine aj.eq hR ?_; simp only [cls,AV.int.injEq,true_and])
 all_goals grind
def Hv (l:List Int) (s:Int):Int:=match l.findIdx? (·=s) with | some i=>i | none=>-1
theorem Jh (c:nY) (l:List Int) (s:Int) (hn:l.length <= 100000):Pure K 246 [.vec l.length c (l.map (.int .i64)),.int .i64 s] (.int .i64 (Hv l s)):=by
 intro U R hR
 refine RF ?_
 simp only [RE,Am,al]
 refine ⟨fun m v0 v1 v7 v8 af=>∃ i:Nat,m=l.length - i/\i <= l.length/\v0=.vec l.length c (l.map (.int .i64))/\v1=.int .i64 s/\v7=.int .i64 l.length/\v8=.int .i64 i/\af=U/\∀ j,j < i->l[j]? ≠ some s,⟨l.length,0,by simp [Fn.app]⟩,?_⟩
 intro m v0 v1 v7 v8 af hI
 obtain ⟨i,rfl,hi,rfl,rfl,rfl,rfl,rfl,js⟩:=hI
 simp only [a7,al,bh]
 refine ⟨fun aM=>?_,fun gq=>?_⟩
 . have aM:i < l.length:=by omega
   have hd:(l.map (AV.int .i64)).drop (i * 1)=.int .i64 l[i]::(l.map (AV.int .i64)).drop (i+1):=by
    rw [Nat.mul_one,fU (by simpa using aM)]; simp
   simp only [FR,wp_cond,al,dL,hd,E8,gH,aT,bh]
   refine ⟨by omega,fun he=>?_,fun cV=>?_⟩
   . refine aj.eq hR ?_
     have:l.findIdx? (·=s)=some i:=by
      rw [Mg]
      refine ⟨aM,by simp [he],fun j hj=>?_⟩
      have:=js j hj
      rw [mQ (by omega)] at this
      simpa using this
     simp [Hv,this]
   . simp only [uT,gQ,wp_cond,al]
     refine ⟨aW (by omega) (by omega),?_⟩
     refine ⟨l.length - (i+1),by omega,i+1,rfl,by omega,rfl,rfl,rfl,by simp,rfl,fun j hj=>?_⟩
     rcases gr j i with h | h
     . exact js j h
     . have:j=i:=by omega
       subst this
       rw [mQ aM]; simpa using fun h=>cV h.symm
 . refine aj.eq hR ?_
   have:l.findIdx? (·=s)=none:=by
    rw [List.findIdx?_eq_none_iff]
    intro x hx
    obtain ⟨j,hj,rfl⟩:=List.getElem_of_mem hx
    have:=js j (by omega)
    rw [mQ hj] at this
    simpa using this
   simp [Hv,this]
theorem Jf (l:List Int) (s:Int):decide (0 <= Hv l s)=decide (s ∈ l):=by
 unfold Hv
 split
 . rename_i j hj
   obtain ⟨h1,h2,_⟩:=Mg.1 hj
   have:s ∈ l:=by have:=of_decide_eq_true h2; exact this ▸ vb h1
   simp [this]
 . rename_i hj
   rw [List.findIdx?_eq_none_iff] at hj
   have:s ∉ l:=fun hm=>by simpa using hj s hm
   simp [this]
theorem wX (c:Int) (cp:nY) (l:List Int) (hn:l.length <= 100000):Pure K 151 [.int .u8 c,.vec l.length cp (l.map (.int .i64))] (.bool (decide (cls c ∈ l))):=by
 intro U R hR
 refine P9 ?_
 refine (GF c).go ?_
 refine QV ?_
 refine (Jh cp l (cls c) hn).go ?_
 simp only [dT,al,Jf]
 exact aj.mk (aj.mk hR)
theorem ER (c:UInt8):decide (cls c.toNat ∈ [2])=eA c:=by
 unfold cls eA
 rw [o3]
 simp only [kH,da]
 grind
theorem Oc (c:UInt8):decide (cls c.toNat ∈ [3])=jx c:=by
 unfold cls jx
 rw [o3]
 simp only [kH,da]
 grind
theorem N9 (c:UInt8):decide (cls c.toNat ∈ [2,3,4])=cq c:=by
 unfold cls cq eA jx wY
 rw [o3]
 simp only [cF,List.not_mem_nil,or_false,da,jI]
 grind
theorem Ob (c:UInt8):(!decide (cls c.toNat ∈ [0]))=iI c:=by
 unfold cls iI
 rw [o3]
 simp only [kH,da,Bool.not_eq_true',decide_eq_false_iff_not]
 grind
theorem Ji (c:UInt8):Pure K 146 [.int .u8 c.toNat] (.bool (iI c)):=by
 intro U R hR
 refine PZ ?_
 unfold PY
 rw [jo]
 refine ⟨by omega,?_⟩
 rw [iY (o:=0) (s:=1) rfl]
 refine ⟨⟨rfl,rfl,by simp [cN]⟩,?_⟩
 rw [kY]
 refine ⟨rfl,?_⟩
 refine (wX c.toNat .full [0] (by simp)).go ?_
 simp only [dA,al,Ob]
 exact aj.mk hR
theorem getD_at {s:aY} {i:Nat} (h:i < s.length):s.getD i 0=s[i]:=by simp [mv,h]
theorem Sc (s:aY):Pure K 74 [.str s] (.aG [.int .i64 (mI s).1,.int .i64 (mI s).2]):=by
 intro U R hR
 refine TN ?_
 unfold VG
 simp only [gm,al,cx,bh]
 unfold mI at hR
 refine ⟨fun h=>?_,fun h=>?_⟩
 . rw [if_pos (by omega)] at hR
   exact aj.mk hR
 . rw [if_neg (by omega)] at hR
   refine ⟨fun m v0 v9 v10 af=>∃ i:Nat,m=s.length - i/\i <= s.length/\v0=.str s/\v9=.int .i64 s.length/\v10=.int .i64 i/\af=U/\∀ j (hj:j < s.length),j < i->iI s[j]=true,⟨s.length,0,by simp [Fn.app]⟩,?_⟩
   rintro m v0 v9 v10 af ⟨i,rfl,hi,rfl,rfl,rfl,rfl,bA⟩
   simp only [a7,al,bh]
   refine ⟨fun aM=>?_,fun gq=>?_⟩
   . have aM:i < s.length:=by omega
     rw [qC]
     refine ⟨by omega,?_⟩
     rw [dL,getD_at aM]
     refine (Ji s[i]).go ?_
     simp only [dA,al]
     cases hb:iI s[i] with
     | false =>
       simp only [dx,bT]
       have:s.findIdx? (fun c=>!iI c)=some i:=by
        rw [Mg]
        exact ⟨aM,by simp [hb],fun j hj=>by simp [bA j (by omega) hj]⟩
       rw [this] at hR
       exact aj.mk hR
     | true =>
       simp only [cn,bG,cr]
       refine ⟨aW (by omega) (by omega),s.length - (i+1),by omega,i+1,rfl,by omega,rfl,rfl,by simp,rfl,fun j hj sF=>?_⟩
       rcases gr j i with h | h
       . exact bA j hj h
       . have:j=i:=by omega
         subst this; exact hb
   . have:s.findIdx? (fun c=>!iI c)=none:=by
      rw [List.findIdx?_eq_none_iff]
      intro x hx
      obtain ⟨j,hj,rfl⟩:=List.getElem_of_mem hx
      simp [bA j hj (by omega)]
     rw [this] at hR
     exact aj.mk hR
theorem su {p:UInt8->Bool}:∀ {l:aY},(∀ x ∈ l,p x=true)->l.takeWhile p=l
 | [],_=>rfl
 | c::l,h=>by rw [lL,h c (by simp)]; simp [su (l:=l) fun x hx=>h x (by simp [hx])]
theorem run_pure (s:aY) (hs:s.length <= 100000):Pure K 149 [.str s] (.int .i64 (s.takeWhile cq).length):=by
 intro U R hR
 refine P6 ?_
 unfold P5
 refine ⟨fun m v0 v2 af=>∃ i:Nat,m=s.length - i/\i <= s.length/\v0=.str s/\v2=.int .i64 i/\af=U/\∀ j (hj:j < s.length),j < i->cq s[j]=true,⟨s.length,0,by simp [Fn.app]⟩,?_⟩
 rintro m v0 v2 af ⟨i,rfl,hi,rfl,rfl,rfl,bA⟩
 have pF:(s.take i).takeWhile cq=s.take i:=by
  refine su fun x hx=>?_
  obtain ⟨j,hj,rfl⟩:=List.getElem_of_mem hx
  simp only [List.length_take] at hj
  rw [List.getElem_take]
  exact bA j (by omega) (by omega)
 have y9:s.takeWhile cq=s.take i++(s.drop i).takeWhile cq:=by
  conv=>lhs; rw [<- List.take_append_drop i s]
  rw [List.takeWhile_append,pF]
  simp
 simp only [gm,al,a7,aI,aB]
 by_cases aM:i < s.length
 . have mi:(i:Int) < s.length:=by omega
   simp only [mi,bZ,dN,bq,ax,rz,iF,dL,getD_at aM]
   refine ⟨by simp,?_⟩
   rw [BH]
   refine ⟨by omega,?_⟩
   rw [wh (o:=0) (s:=1) rfl]
   refine ⟨⟨rfl,rfl,by simp [cN]⟩,?_⟩
   rw [wh (o:=1) (s:=1) rfl]
   refine ⟨⟨rfl,rfl,by simp [cN,aK]⟩,?_⟩
   rw [wh (o:=2) (s:=1) rfl]
   refine ⟨⟨rfl,rfl,by simp [cN,aK]⟩,?_⟩
   rw [DZ]
   refine ⟨rfl,_,wX s[i].toNat .full [2,3,4] (by simp),?_⟩
   rw [N9]
   simp only [az,if_true,al]
   have hd:s.drop i=s[i]::s.drop (i+1):=fU aM
   cases hb:cq s[i] with
   | true =>
     simp only [bT,cr]
     refine ⟨aW (by omega) (by omega),s.length - (i+1),by omega,i+1,rfl,by omega,rfl,by simp,rfl,fun j hj sF=>?_⟩
     rcases gr j i with h | h
     . exact bA j hj h
     . have:j=i:=by omega
       subst this; exact hb
   | false =>
     simp only [bG]
     refine aj.eq hR ?_
     rw [y9,hd,lL,hb]
     simp
     omega
 . have mi:¬ (i:Int) < s.length:=by omega
   simp only [mi,cE,show (false == true)=false from rfl,aZ,az,bC,if_false,al,bG]
   refine aj.eq hR ?_
   rw [y9,List.drop_eq_nil_of_le (by omega)]
   simp; omega
end Go.Rip
namespace Go.Rip
open Go.Proofs Go.RowKit
theorem Fe {s:aY} {i:Nat} (h:i < s.length):iw 0 (s.take (i+1))=min (10 * iw 0 (s.take i)+((s[i].toNat:Int) - 48)) 1000001:=by
 have:s.take (i+1)=s.take i++[s[i]]:=by rw [lM,mQ h]; rfl
 rw [this]
 unfold iw
 rw [List.foldl_append]
 rfl
theorem Jq (s:aY) (hs:s.length <= 100000):Pure K 152 [.str s] (.int .i64 (kF s)):=by
 intro U R hR
 refine Qb ?_
 unfold Qa
 simp only [gm,al]
 refine ⟨fun m v0 v3 v6 v7 af=>∃ i:Nat,m=s.length - i/\i <= s.length/\v0=.str s/\v3=.int .i64 (iw 0 (s.take i))/\v6=.int .i64 s.length/\v7=.int .i64 i/\af=U/\(s.take i).all eA=true,⟨s.length,0,by simp [Fn.app,iw]⟩,?_⟩
 rintro m v0 v3 v6 v7 af ⟨i,rfl,hi,rfl,rfl,rfl,rfl,rfl,bA⟩
 have hb:=Aq (s.take i) 0 (by omega)
 have yf:=qR (s.take i) 0 bA (by omega)
 simp only [a7,al,bh]
 refine ⟨fun aM=>?_,fun gq=>?_⟩
 . have aM:i < s.length:=by omega
   rw [qC]
   refine ⟨by omega,?_⟩
   rw [dL,getD_at aM,jo]
   refine ⟨by omega,?_⟩
   rw [iY (o:=0) (s:=1) rfl]
   refine ⟨⟨rfl,rfl,by simp [cN]⟩,?_⟩
   rw [kY]
   refine ⟨rfl,?_⟩
   refine (wX s[i].toNat .full [2] (by simp)).go ?_
   rw [ER]
   simp only [dA,al]
   have gD:s.take (i+1)=s.take i++[s[i]]:=by rw [lM,mQ aM]; rfl
   cases hd:eA s[i] with
   | false =>
     simp only [dx,bT]
     refine aj.eq hR ?_
     have:s.all eA=false:=by
      rw [Bool.eq_false_iff]
      intro h
      rw [ep] at h
      rw [h s[i] (vb aM)] at hd
      cases hd
     simp [kF,this]
   | true =>
     have hc:=mE.1 hd
     simp only [cn,bG,V7]
     refine ⟨aW (by omega) (by omega),?_⟩
     rw [qC]
     refine ⟨by omega,?_⟩
     rw [dL,getD_at aM]
     have hw:IntKind.u8.wrap ((s[i].toNat:Int) - 48)=(s[i].toNat:Int) - 48:=by
      show ((s[i].toNat:Int) - 48) % 256=_
      omega
     simp only [gX,Gw,al,hw,wJ,wp_cond,cr,Kx]
     refine ⟨aW (by omega) (by omega),aW (by omega) (by omega),aW (by omega) (by omega),?_⟩
     refine ⟨s.length - (i+1),by omega,i+1,rfl,by omega,rfl,?_,rfl,by simp,rfl,?_⟩
     . rw [Fe aM]
       congr 1
       omega
     . rw [gD,List.all_append,bA]; simp [hd]
 . have hi:i=s.length:=by omega
   subst hi
   rw [oq] at bA hb yf ⊢
   have hv:DT s=iw 0 s:=rfl
   simp only [gm,al,cx,aI,aB]
   by_cases h1:1 < s.length
   . have tq:(1:Int) < s.length:=by omega
     simp only [tq,bZ,dN,bq,ax,rz,iF,aT,az,if_true,al,bh]
     have h0:s.getD (0:Int).toNat 0=s[0]:=getD_at (by omega)
     rw [h0]
     have hh:s.head?=some s[0]:=by
      cases s with
      | nil=>simp at h1
      | cons c r=>rfl
     refine ⟨⟨by omega,by omega⟩,fun Eu=>?_,fun Eu=>⟨fun hm=>?_,fun hm=>?_⟩⟩
     . refine aj.eq hR ?_
       have Zc:s[0].toNat=(48:UInt8).toNat:=by show s[0].toNat=48; omega
       have:s[0]=48:=UInt8.toNat_inj.1 Zc
       simp [kF,bA,h1,hh,this]
     . refine aj.eq hR ?_
       have:¬ s[0]=48:=fun e=>Eu (by rw [e]; rfl)
       simp [kF,bA,hh,this,hv,hm]
     . refine aj.eq hR ?_
       have:¬ s[0]=48:=fun e=>Eu (by rw [e]; rfl)
       simp [kF,bA,hh,this,hv,hm]
   . have tq:¬ (1:Int) < s.length:=by omega
     simp only [tq,cE,show (false == true)=false from rfl,aZ,az,bC,if_false,al,bG,bh]
     refine ⟨fun hm=>?_,fun hm=>?_⟩
     . refine aj.eq hR ?_
       simp [kF,bA,h1,hv,hm]
     . refine aj.eq hR ?_
       simp [kF,bA,h1,hv,hm]
theorem vK (s p:aY):Pure K 213 [.str s,.str p] (.bool (p.isPrefixOf s)) :=
 Pure.BC (vs:=[.string ⟨s.toArray⟩,.string ⟨p.toArray⟩]) (v:=.bool (p.isPrefixOf s)) (fun g us h=>by
  simp only [aH,aE] at h
  obtain ⟨_,_,rfl,rfl,_,_,rfl,rfl,rfl⟩:=h; rfl) (fun g=>by simp only [aE]) fun w=>Tryz.strings_HasPrefix ⟨s.toArray⟩ ⟨p.toArray⟩ w
theorem xL (s:aY):(ef.find? fun x=>x.isPrefixOf s)=if cR.isPrefixOf s then some cR else if gd.isPrefixOf s then some gd else match s with
 | []=>none
 | c::_=>if c ∈ dX then some [c] else none:=by
 cases s with
 | nil=>rfl
 | cons c r =>
   by_cases h1:cR.isPrefixOf (c::r)=true
   . simp only [ef,List.find?_cons,h1,if_true]
   . by_cases h2:gd.isPrefixOf (c::r)=true
     . simp only [ef,List.find?_cons,h1,h2,if_true,bC,if_false]
     . simp only [ef,List.find?_cons,h1,h2,bC,if_false]
       have e:∀ x:UInt8,[x].isPrefixOf (c::r)=(x == c):=fun x=>by simp [List.isPrefixOf]
       simp only [show iJ=[61] from rfl,show rF=[60] from rfl,show rD=[43] from rfl,show qA=[45] from rfl,show sY=[42] from rfl,show qz=[33] from rfl,show ek=[40] from rfl,show eV=[41] from rfl,show qB=[123] from rfl,show rG=[125] from rfl,show dW=[44] from rfl,show dO=[59] from rfl,show eD=[58] from rfl,show rE=[46] from rfl,e]
       by_cases hc:c ∈ dX
       . rw [if_pos hc]
         simp only [dX,cF,List.not_mem_nil,or_false] at hc
         rcases hc with rfl | rfl | rfl | rfl | rfl | rfl | rfl | rfl | rfl | rfl | rfl | rfl | rfl | rfl <;> rfl
       . rw [if_neg hc]
         simp only [dX,cF,List.not_mem_nil,or_false,not_or] at hc
         have f:∀ x:UInt8,¬ c=x->(x == c)=false:=fun x h=>by simp [Ne.symm h]
         simp only [f _ hc.1,f _ hc.2.1,f _ hc.2.2.1,f _ hc.2.2.2.1,f _ hc.2.2.2.2.1,f _ hc.2.2.2.2.2.1,f _ hc.2.2.2.2.2.2.1,f _ hc.2.2.2.2.2.2.2.1,f _ hc.2.2.2.2.2.2.2.2.1,f _ hc.2.2.2.2.2.2.2.2.2.1,f _ hc.2.2.2.2.2.2.2.2.2.2.1,f _ hc.2.2.2.2.2.2.2.2.2.2.2.1,f _ hc.2.2.2.2.2.2.2.2.2.2.2.2.1,f _ hc.2.2.2.2.2.2.2.2.2.2.2.2.2,List.find?_nil]
theorem Hw (l:List UInt8) (c:UInt8):decide (Lib.indexByte l c < 0)=!decide (c ∈ l):=by
 induction l with
 | nil=>simp [Lib.indexByte]
 | cons b l ih =>
   have hg:=Lib.indexByte_ge l c
   unfold Lib.indexByte
   by_cases h:b=c
   . subst h; simp
   . have hc:¬ c=b:=fun e=>h e.symm
     have h':(b == c)=false:=by simp [h]
     rw [h']
     by_cases hm:c ∈ l
     . simp only [hm,bZ,cn,decide_eq_false_iff_not] at ih
       have h2:(Lib.indexByte l c == -1)=false:=by simp; omega
       simp [h2,hm]; omega
     . simp only [hm,cE,dx,da] at ih
       have h2:(Lib.indexByte l c == -1)=true:=by simp; omega
       simp [h2,hm,hc]
def pK (s:aY):Int × Nat × aY:=match ef.find? fun x=>x.isPrefixOf s with | some x=>(0,4,x) | none=>(4,0,[])
def It (p:Int × Nat × aY):AV:=.aG [.agg [.int .u8 p.2.1,.str p.2.2,.int .i64 0],.int .i64 p.1]
theorem RI (s:aY) (hs:s.length <= 100000):Pure K 150 [.str s] (It (pK s)):=by
 refine Pure.of rfl rfl (fun U=>rfl) fun R hR=>?_
 refine P8 ?_
 unfold P7
 rw [df]
 intro b hb
 generalize sH:(bJ _).new b _=U
 have gl:U.box b=some [AV.int .u8 0,AV.str [],AV.int .i64 0]:=by rw [<- sH]; exact aS
 clear sH hb
 have Un:∀ {K':AV->St->Prop} {Kp:AV->St->Prop} {z:List AV} {ps:List (Nat × AV)} {U:St},(ee none (some z) (some (2,9,1)) ps).wp K U K' Kp=(gG (fun i=>some (i * 1,1)) ps z fun z=>.val (.agg z)).wp K U K' Kp:=rfl
 rw [Un,iY (o:=0) (s:=1) rfl]
 refine ⟨⟨rfl,rfl,by simp⟩,?_⟩
 rw [iY (o:=1) (s:=1) rfl]
 refine ⟨⟨rfl,rfl,by simp [aK]⟩,?_⟩
 rw [Xl]
 have fin:∀ (k:Nat) (x:aY) (e:Int) (ps:List (Nat × AV)) (af:St),af.box b=some [AV.int .u8 0,AV.str [],AV.int .i64 0]->sf [(0,1),(1,1),(2,1)] ps [AV.int .u8 0,AV.str [],AV.int .i64 0]=some [.int .u8 k,.str x,.int .i64 0]->pK s=(e,k,x) ->
  (ee (some [(0,1),(1,1),(2,1)]) (some [AV.int .u8 0,AV.str [],AV.int .i64 0]) none ps).wp K af (fun v U=>(aU (some (true,3)) (.box b 0) v U).wp K U (fun _ U=>bF (some (true,3)) (.box b 0) U fun r0=>aj R (.aG [r0,.int .i64 e]) U) (aa R)) (aa R):=by
  intro k x e ps af eT h1 h2
  refine rL _ h1 ?_
  rw [dP eT]
  refine ⟨⟨rfl,rfl,by simp⟩,?_⟩
  rw [As bD]
  refine ⟨by simp [aK],?_⟩
  rw [h2] at hR
  exact aj.eq (hR _) rfl
 refine ⟨fun m v0 v2 v6 v7 af=>∃ i:Nat,m=2 - i/\i <= 2/\v0=.str s/\v2=.box b 0/\v6=.agg [.str cR,.str gd]/\v7=.int .i64 i/\af.box b=some [AV.int .u8 0,AV.str [],AV.int .i64 0]/\(0 < i->cR.isPrefixOf s=false)/\(1 < i->gd.isPrefixOf s=false),
  ⟨2,0,rfl,by omega,rfl,rfl,rfl,rfl,gl,by simp,by simp⟩,?_⟩
 rintro m v0 v2 v6 v7 af ⟨i,rfl,hi,rfl,rfl,rfl,rfl,eT,y7,hn1⟩
 simp only [a7,al,bh]
 refine ⟨fun aM=>?_,fun gq=>?_⟩
 . have aM:i < 2:=by omega
   obtain rfl | rfl:i=0\/i=1:=by omega
   . simp only [eh,wp_cond]
     refine ⟨by omega,?_⟩
     simp only [show ((0:Nat):Int).toNat * 1=0 from rfl,List.drop,iH,al]
     refine (vK s cR).go ?_
     cases hp:cR.isPrefixOf s with
     | true =>
       simp only [bT]
       refine fin 4 cR 0 _ af eT rfl ?_
       simp [pK,xL,hp]
     | false =>
       simp only [bG,cr]
       exact ⟨aW (by omega) (by omega),1,by omega,1,rfl,by omega,rfl,rfl,rfl,rfl,eT,fun _=>by first | exact hp | trivial,by simp⟩
   . simp only [eh,wp_cond]
     refine ⟨by omega,?_⟩
     simp only [show ((1:Nat):Int).toNat * 1=1 from rfl,List.drop,iH,al]
     refine (vK s gd).go ?_
     cases hp:gd.isPrefixOf s with
     | true =>
       simp only [bT]
       refine fin 4 gd 0 _ af eT rfl ?_
       simp [pK,xL,hp,y7 (by omega)]
     | false =>
       simp only [bG,cr]
       exact ⟨aW (by omega) (by omega),0,by omega,2,rfl,by omega,rfl,rfl,rfl,rfl,eT,fun _=>y7 (by omega),fun _=>by first | exact hp | trivial⟩
 . have hi2:i=2:=by omega
   subst hi2
   have p0:=y7 (by omega)
   have p1:=hn1 (by omega)
   simp only [fX,al,aI,aB]
   cases s with
   | nil =>
     simp only [show w_=([]:List UInt8) from rfl,bZ,show (true == false)=false from rfl,aZ,az,if_true,al,bT]
     exact fin 0 [] 4 _ af eT rfl rfl
   | cons c r =>
     have cV:¬ (c::r=w_):=by simp [show w_=([]:List UInt8) from rfl]
     simp only [cV,cE,dN,bq,ax,rz,iF,az,bC,if_false,al]
     refine ⟨by simp,_,vV dX c.toNat,?_⟩
     simp only [a7,ax,az,bC,if_false,al]
     have hcc:((c.toNat:Int).toNat).toUInt8=c:=by simp
     rw [hcc,Hw]
     cases hm:decide (c ∈ dX) with
     | false =>
       have NM:¬ c ∈ dX:=by simpa using hm
       simp only [dx,bT]
       refine fin 0 [] 4 _ af eT rfl ?_
       simp [pK,xL,p0,p1,NM]
     | true =>
       have NM:c ∈ dX:=by simpa using hm
       simp only [cn,bG,kf,ic,eG,wp_cond,al]
       refine ⟨⟨by omega,by omega,by simp; omega⟩,?_⟩
       refine fin 4 [c] 0 _ af eT rfl ?_
       simp [pK,xL,p0,p1,NM]
end Go.Rip
namespace Go.Rip
open Go.Proofs Go.RowKit
theorem HI (s:aY):∀ l:List aY,oD .s (.str s) (.bool false) false (l.map .str) (l.map fun _=>.bool true)=.val (.bool (decide (s ∈ l)))
 | []=>by simp [oD]
 | x::l=>by
   simp only [dV,oD,iA]
   by_cases h:s=x
   . subst h; simp
   . rw [show (s == x)=false by simp [h]]
     have:=HI s l
     simp only [bC,if_false,this]
     simp [h]
theorem R0:Dv=.gb (iU.map .str) (iU.map fun _=>.bool true):=rfl
theorem MK (s:aY) (U:St):gI (some (.s,4)) (some (AV.bool false)) Dv (.str s) false U=.val (.bool (decide (s ∈ iU))):=by
 rw [R0]
 simp only [gI,mL,uv]
 exact HI s iU
theorem Ck (s:aY) (hs:s.length <= 100000):Pure K 77 [.str s] (It (e8 s)):=by
 refine Pure.of rfl rfl (fun U=>rfl) fun R hR=>?_
 refine TQ ?_
 unfold VJ
 rw [df]
 intro b hb
 generalize sH:(bJ _).new b _=U
 have gl:U.box b=some [AV.int .u8 0,AV.str [],AV.int .i64 0]:=by rw [<- sH]; exact aS
 clear sH hb
 refine (run_pure s hs).go ?_
 have pF:s.take (s.takeWhile cq).length=s.takeWhile cq:=by
  have:=qS cq (l:=s)
  exact (List.prefix_iff_eq_take.1 this).symm
 have hle:(s.takeWhile cq).length <= s.length:=(qS cq).length_le
 simp only [kf,ic,eG,wp_cond,al,dL,pF,show (0:Int).toNat=0 from rfl,dQ,fX,bh]
 refine ⟨⟨by omega,by omega,by omega⟩,fun h0=>?_,fun h0=>?_⟩
 . have h0:s.takeWhile cq=[]:=h0
   refine (RI s hs).go ?_
   simp only [It,bH,List.drop,bN]
   rw [dP gl]
   refine ⟨⟨rfl,rfl,by simp⟩,?_⟩
   rw [As bD]
   refine ⟨by simp [aK],aj.eq (hR _) ?_⟩
   have:e8 s=pK s:=by unfold e8 pK; rw [h0]; rfl
   rw [this]; rfl
 . cases hw:s.takeWhile cq with
   | nil=>exact absurd hw h0
   | cons c r =>
     have hlw:(c::r).length <= s.length:=by rw [<- hw]; exact hle
     have ht:e8 s=if eA c then (kF (c::r),2,c::r) else if jx c=false then (4,0,[]) else if (c::r) ∈ iU then (0,3,c::r) else if 12 < (c::r).length then (4,0,[]) else (0,1,c::r):=by
      unfold e8; rw [hw]
     have fin:∀ (k:Nat) (x:aY) (e:Int) (zs:List AV) (af:St),zs=[.int .u8 k,.str x,.int .i64 0]->af.box b=some [AV.int .u8 0,AV.str [],AV.int .i64 0]->e8 s=(e,k,x) ->
      (aU (some (true,3)) (.box b 0) (.agg zs) af).wp K af (fun _ U=>bF (some (true,3)) (.box b 0) U fun r0=>aj R (.aG [r0,.int .i64 e]) U) (aa R):=by
      intro k x e zs af hz eT h2
      subst hz
      rw [dP eT]
      refine ⟨⟨rfl,rfl,by simp⟩,?_⟩
      rw [As bD]
      refine ⟨by simp [aK],?_⟩
      rw [h2] at hR
      exact aj.eq (hR _) rfl
     have one:∀ (cl:Int) (K':AV->St->Prop) (af:St),K' (.bool (decide (cls c.toNat ∈ [cl]))) af ->
      (eh true none none (.str (c::r)) (.int .i64 0)).wp K af (fun bY U=>(aJ (some (178,1)) (some [AV.int .i64 0]) 1 false [(0,(AV.int .i64 cl))]).wp K U (fun bS U=>ag K 151 [bY,bS] U (aq K' (aa R))) (aa R)) (aa R):=by
      intro cl K' af h
      rw [qC]
      refine ⟨⟨by omega,by simp⟩,?_⟩
      rw [jo]
      refine ⟨by omega,?_⟩
      rw [iY (o:=0) (s:=1) rfl]
      refine ⟨⟨rfl,rfl,by simp [cN]⟩,?_⟩
      rw [kY]
      refine ⟨rfl,?_⟩
      exact (wX c.toNat .full [cl] (by simp)).go h
     refine one 2 _ _ ?_
     rw [ER]
     cases hd:eA c with
     | true =>
       simp only [bT]
       refine rL [.int .u8 2,.str (c::r),.int .i64 0] rfl ?_
       refine (Jq (c::r) (by omega)).go ?_
       exact fin 2 (c::r) _ _ _ rfl gl (by rw [ht,if_pos hd])
     | false =>
       simp only [bG]
       refine one 3 _ _ ?_
       rw [Oc]
       simp only [dA,al]
       have sC:¬ (eA c=true):=by rw [hd]; simp
       cases nj:jx c with
       | false =>
         simp only [dx,bT]
         refine rL [.int .u8 0,.str [],.int .i64 0] rfl ?_
         exact fin 0 [] _ _ _ rfl gl (by rw [ht,if_neg sC,if_pos nj])
       | true =>
         have eE:¬ (jx c=false):=by rw [nj]; simp
         simp only [cn,bG]
         refine Dw.go ?_
         simp only [MK,al,bh,gm,cx]
         refine ⟨fun hk=>?_,fun hk=>⟨fun hl=>?_,fun hl=>?_⟩⟩
         . refine rL [.int .u8 3,.str (c::r),.int .i64 0] rfl ?_
           exact fin 3 (c::r) _ _ _ rfl gl (by rw [ht,if_neg sC,if_neg eE,if_pos hk])
         . refine rL [.int .u8 0,.str [],.int .i64 0] rfl ?_
           exact fin 0 [] _ _ _ rfl gl (by rw [ht,if_neg sC,if_neg eE,if_neg hk,if_pos (by omega)])
         . refine rL [.int .u8 1,.str (c::r),.int .i64 0] rfl ?_
           exact fin 1 (c::r) _ _ _ rfl gl (by rw [ht,if_neg sC,if_neg eE,if_neg hk,if_neg (by omega)])
end Go.Rip
namespace Go.Rip
open Go.Proofs Go.RowKit
theorem De (u:aY):(Lib.indexByte u 10=-1/\u.takeWhile (fun c=>c.toNat ≠ 10)=u)\/∃ k:Nat,Lib.indexByte u 10=k/\k < u.length/\u.takeWhile (fun c=>c.toNat ≠ 10)=u.take k:=by
 have qH:∀ c:UInt8,c.toNat=10 ↔ c=10:=fun c=>⟨fun h=>UInt8.toNat_inj.1 h,fun h=>by rw [h]; rfl⟩
 induction u with
 | nil=>left; exact ⟨rfl,rfl⟩
 | cons b u ih =>
   unfold Lib.indexByte
   by_cases hb:b=10
   . right
     refine ⟨0,by simp [hb],by simp,?_⟩
     rw [lL]
     simp [(qH b).2 hb]
   . have eT:(b == 10)=false:=by simp [hb]
     have hn:(decide (b.toNat ≠ 10))=true:=by simp [qH,hb]
     rw [lL,hn]
     rcases ih with ⟨h1,h2⟩ | ⟨k,h1,h2,h3⟩
     . left; rw [h1,h2]; simp [eT]
     . right
       refine ⟨k+1,?_,by simp; omega,?_⟩
       . rw [h1,eT]
         have:((k:Int) == -1)=false:=by simp
         simp [this]
       . simp only [if_true,List.take_succ_cons,h3]
theorem Sd (u:aY) (hu:u.length <= 100000):∃ y z,Pure K 148 [.str u,.str mW] (.aG [.str (u.takeWhile fun c=>c.toNat ≠ 10),y,z]):=by
 have go:∀ x y z,Pure K 212 [.str u,.str mW] (.aG [x,y,z])->Pure K 148 [.str u,.str mW] (.aG [x,y,z]):=fun x y z h U R hR=>by
  refine P4 ?_
  refine h.go ?_
  simp only [bH,List.drop,bN]
  exact aj.mk hR
 have hi:=vW u 10
 rcases De u with ⟨h1,h2⟩ | ⟨k,h1,h2,h3⟩
 . refine ⟨_,_,go _ (.str w_) (.bool false) fun U R hR=>?_⟩
   refine Fw ?_
   refine hi.go ?_
   rw [h1]
   simp only [dT,al,show decide ((0:Int) <= -1)=false from rfl,bG]
   rw [h2] at hR
   exact aj.mk hR
 . refine ⟨_,_,go _ (.str (u.drop (k+1))) (.bool true) fun U R hR=>?_⟩
   refine Fw ?_
   refine hi.go ?_
   rw [h1]
   have h0:decide ((0:Int) <= (k:Nat))=true:=by simp
   simp only [dT,al,h0,bT,kf,ic,eG,lJ,ax,gm,CY,show (mW:List UInt8).length=1 from rfl,dL]
   refine ⟨⟨by omega,by omega,by omega⟩,aW (by omega) (by omega),⟨by omega,by omega,by omega⟩,?_⟩
   rw [h3] at hR
   refine aj.eq hR ?_
   have e1:((k:Int)+((1:Nat):Int)).toNat=k+1:=by omega
   simp [e1]
theorem Wj {U:St} {R:cO->St->Prop} {b n:Nat} {c:nY} {l:List Tk} {t:Tk} {a:AV} (hb:U.box b=some [.vec n c (eP (l++[t]))]) (hn:n=l.length+1) (hl:l.length <= 900) (h:R (.ret (.int .i64 t.s.length)) U):ag K 75 [a,.box b 0] U R:=by
 refine TO ?_
 subst hn
 unfold VH
 simp only [iZ hb,List.drop,bN,Am,al,pB]
 refine ⟨aW (by omega) (by omega),?_⟩
 rw [ua]
 refine ⟨by omega,?_⟩
 have e:(((l.length+1:Nat):Int) - 1).toNat=l.length:=by omega
 rw [e]
 obtain ⟨r,hr⟩:=Xg (L:=l++[t]) (i:=l.length) (t:=t) (by simp)
 rw [hr]
 simp only [dB,al,lB,iX,List.drop,mB,bN,gm]
 exact aj.mk h
def tW (l:List Tk):AV:=if l=[] then .aA else .vec l.length .kV (eP l)
theorem rB (l l':List Tk):eP (l++l')=eP l++eP l':=by simp [eP]
structure TI (U:St) (b1 b2 b3 b4 b7 bs bd:Nat) (s:aY) (l:List Tk):Prop where
 h1:U.box b1=some [.str s]
 h2:∃ x,U.box b2=some [x]
 h3:∃ x,U.box b3=some [x]
 h4:∃ x,U.box b4=some [x]
 h7:∃ v,U.box b7=some [v]/\Grow U v 51 3 l.length (eP l)/\(l=[]->v=.aA)
 hs:U.box bs=some [.str s]
 hd:U.box bd=some [.func (.func 75) [] [.box b7 0]]
theorem fT {U af:St} {b:Nat} (h:af.live b=U.live b):af.loop b=U.loop b:=by simp [St.loop,h]
theorem fF {U:St} {b:Nat} {L:fp}:(U.set b (.loop L)).loop b=some L:=by simp [St.loop,dy]
theorem u4 {U:St} {b:Nat} {L:fp}:(U.new b (.loop L)).loop b=some L:=by simp [St.loop,lG]
theorem bV {U:St} {b b':Nat} {l:List AV} {L:fp} (h:U.box b=some l) (k:U.loop b'=some L):b ≠ b':=by
 rintro rfl
 unfold St.box at h; unfold St.loop at k
 split at k
 . rename_i e; simp [e] at h
 . cases k
theorem rC {U:St} {b b':Nat} {l:Tok} {L:fp} (h:U.tok b=some l) (k:U.loop b'=some L):b ≠ b':=by
 rintro rfl
 unfold St.tok at h; unfold St.loop at k
 split at k
 . rename_i e; simp [e] at h
 . cases k
theorem TI.qV {U:St} {b1 b2 b3 b4 b7 bs bd o:Nat} {s:aY} {l:List Tk} (T:TI U b1 b2 b3 b4 b7 bs bd s l) {L L':fp} (hL:U.loop o=some L):TI (U.set o (.loop L')) b1 b2 b3 b4 b7 bs bd s l:=by
 have k:∀ {b:Nat} {x:List AV},U.box b=some x->(U.set o (.loop L')).box b=some x:=fun h=>by rw [bf (bV h hL)]; exact h
 obtain ⟨v,g1,g2,g3⟩:=T.h7
 refine ⟨k T.h1,T.h2.imp fun _ h=>k h,T.h3.imp fun _ h=>k h,T.h4.imp fun _ h=>k h,⟨v,k g1,?_,g3⟩,k T.hs,k T.hd⟩
 rcases g2 with g2 | ⟨τ,e,ht,hl⟩
 . exact .inl g2
 . exact .inr ⟨τ,e,by rw [il (rC ht hL)]; exact ht,hl⟩
theorem TI.qG {U af:St} {b1 b2 b3 b4 b7 bs bd:Nat} {s:aY} {l:List Tk} (T:TI U b1 b2 b3 b4 b7 bs bd s l) (e:dD U af):TI af b1 b2 b3 b4 b7 bs bd s l:=by
 obtain ⟨v,g1,g2,g3⟩:=T.h7
 refine ⟨e.bo T.h1,T.h2.imp fun _ h=>e.bo h,T.h3.imp fun _ h=>e.bo h,T.h4.imp fun _ h=>e.bo h,⟨v,e.bo g1,?_,g3⟩,e.bo T.hs,e.bo T.hd⟩
 rcases g2 with g2 | ⟨τ,e1,ht,hl⟩
 . exact .inl g2
 . exact .inr ⟨τ,e1,e.tok ht,hl⟩
theorem Pure.of' {f:Nat} {args:List AV} {x:AV} (hargs:cK args=true) (hx:closed x=true)
 (h:∀ R:cO->St->Prop,(∀ v af,resolve 5 af v=x->R (.ret v) af)->ag K f args (bJ ⟨.e,0⟩) R):Pure K f args x :=
 Pure.Ar AL hargs hx 5 (h _ fun v af e=>⟨v,rfl,e⟩)
theorem JE (n:Nat) (U:St) (l:List Tk):(eP l).map (resolve (n+1) U)=eP l:=by
 induction l with
 | nil=>rfl
 | cons t l ih =>
   show ((lB t++eP l).map (resolve (n+1) U))=lB t++eP l
   rw [List.map_append,ih]; rfl
theorem K9 (l:List Tk):cK (eP l)=true:=by
 induction l with
 | nil=>rfl
 | cons t l ih=>show cK (lB t++eP l)=true; simp [lB,cK,closed,ih]
theorem AJ (l:List Tk):closed (tW l)=true:=by
 unfold tW; split
 . rfl
 . exact K9 l
theorem zI {U af:St} {v:AV} {l:List Tk} (n:Nat) (h:Grow U v 51 3 l.length (eP l)) (h0:l=[]->v=.aA):resolve (n+2) af v=tW l:=by
 unfold tW
 split
 . rename_i e; rw [h0 e]; rfl
 . rename_i e
   rcases h with ⟨h1,_,_⟩ | ⟨τ,rfl,_,_⟩
   . exact absurd (tS.1 h1) e
   . show AV.vec l.length .kV ((eP l).map (resolve (n+1) af))=_
     rw [JE]
def r9:Gk->AV
 | .ok l=>.aG [tW l,.int .i64 0,.int .i64 0]
 | .bad p e=>.aG [.aA,.int .i64 p,.int .i64 e]
theorem dD.loop {U af:St} {b:Nat} {L:fp} (h:dD U af) (k:U.loop b=some L):af.loop b=some L:=by
 cases e:U.live b with
 | none=>simp [St.loop,e] at k
 | some x=>rw [fT ((h b x e).trans e.symm)]; exact k
theorem lj {U af:St} {v:AV} {e sz n:Nat} {l:List AV} (g:Grow U v e sz n l) (e1:∀ b x,(∀ n l,v ≠ .vec n (.own b) l)->U.live b=some x->af.live b=some x) :
 (∀ {b:Nat} {x:List AV},U.box b=some x->af.box b=some x)/\(∀ {b:Nat} {L:fp},U.loop b=some L->af.loop b=some L):=by
 refine ⟨fun {b x} h=>?_,fun {b L} h=>?_⟩
 . cases e:U.live b with
   | none=>exact absurd e (dc h)
   | some y =>
     have:=e1 b y (fun n' l' hv=>by
      rcases g with ⟨_,_,g⟩ | ⟨τ,g,ht,_⟩
      . rw [g] at hv; cases hv
      . rw [g] at hv; cases hv; exact gg h ht rfl) e
     rw [fE (this.trans e.symm)]; exact h
 . cases e:U.live b with
   | none=>simp [St.loop,e] at h
   | some y =>
     have:=e1 b y (fun n' l' hv=>by
      rcases g with ⟨_,_,g⟩ | ⟨τ,g,ht,_⟩
      . rw [g] at hv; cases hv
      . rw [g] at hv; cases hv; exact rC ht h rfl) e
     rw [fT (this.trans e.symm)]; exact h
theorem st3 {U:St} {b2 b3 b4:Nat} {lv:AV} {p e:Int} {K':AV->St->Prop} {Kp:AV->St->Prop} (h2:∃ x,U.box b2=some [x]) (h3:∃ x,U.box b3=some [x]) (h4:∃ x,U.box b4=some [x]) (HM:b2 ≠ b3) (CR:b2 ≠ b4) (HN:b3 ≠ b4) (hl:lv.eF=true/\aC lv=[lv])
 (h:∀ ib,ib.box b2=some [lv]->ib.box b3=some [.int .i64 p]->ib.box b4=some [.int .i64 e]->(∀ b,b ≠ b2->b ≠ b3->b ≠ b4->ib.live b=U.live b)->K' (.aG []) ib) :
 (aU (some (false,1)) (.box b2 0) lv U).wp K U (fun _ U=>(aU (some (false,1)) (.box b3 0) (.int .i64 p) U).wp K U (fun _ U=>(aU (some (false,1)) (.box b4 0) (.int .i64 e) U).wp K U K' Kp) Kp) Kp:=by
 obtain ⟨x2,h2⟩:=h2
 obtain ⟨x3,h3⟩:=h3
 obtain ⟨x4,h4⟩:=h4
 rw [dP h2]
 refine ⟨⟨hl.1,by rw [hl.2]; rfl,by simp⟩,?_⟩
 rw [dP (show (U.set b2 _).box b3=some [x3] by rw [bf HM.symm]; exact h3)]
 refine ⟨⟨rfl,rfl,by simp⟩,?_⟩
 rw [dP (show ((U.set b2 _).set b3 _).box b4=some [x4] by rw [bf HN.symm,bf CR.symm]; exact h4)]
 refine ⟨⟨rfl,rfl,by simp⟩,h _ ?_ ?_ ?_ fun b m2 m3 m4=>?_⟩
 . rw [bf CR,bf HM,bD,hl.2]; rfl
 . rw [bf HN,bD]; rfl
 . rw [bD]; rfl
 . rw [dy,if_neg m4,dy,if_neg m3,dy,if_neg m2]
theorem JL (s:aY) (hs:s.length <= 3000):Pure K 33 [.str s] (r9 (mO s)):=by
 refine Pure.of' rfl (by cases mO s with | ok l=>simp [r9,closed,cK,AJ] | bad p e=>rfl) fun R hR=>?_
 refine Ty ?_
 unfold Vs
 rw [fg rfl]
 intro b1 gl
 rw [df]
 intro b2 mD
 rw [df]
 intro b3 pc
 rw [df]
 intro b4 iS
 have n12:b1 ≠ b2:=mD.cH aS
 have g1:=aS (U:=bJ ⟨.e,0⟩) (b:=b1) (l:=aC (.str s))
 generalize aeJ:(bJ _).new b1 _=aQ at *
 have Uz:=(bE mD (x:=.box [.aA])).bo g1
 have g2:=aS (U:=aQ) (b:=b2) (l:=[.aA])
 generalize aeK:aQ.new b2 _=bg at *
 have Zl:=(bE pc (x:=.box [.int .i64 0])).bo Uz
 have Zn:=(bE pc (x:=.box [.int .i64 0])).bo g2
 have g3:=aS (U:=bg) (b:=b3) (l:=[.int .i64 0])
 have HM:b2 ≠ b3:=pc.cH g2
 generalize aeL:bg.new b3 _=cz at *
 have k1:=(bE iS (x:=.box [.int .i64 0])).bo Zl
 have k2:=(bE iS (x:=.box [.int .i64 0])).bo Zn
 have k3:=(bE iS (x:=.box [.int .i64 0])).bo g3
 have k4:=aS (U:=cz) (b:=b4) (l:=[.int .i64 0])
 have CR:b2 ≠ b4:=iS.cH Zn
 have HN:b3 ≠ b4:=iS.cH g3
 generalize aeM:cz.new b4 _=dZ at *
 clear aeJ aeK aeL aeM g1 Uz Zl g2 Zn g3 gl mD pc iS
 replace k1:dZ.box b1=some [.str s]:=k1
 have fin:∀ (af:St) (lv:AV) (p e:Int),af.box b2=some [lv]->af.box b3=some [.int .i64 p]->af.box b4=some [.int .i64 e]->(∀ ib,resolve 5 ib (.aG [lv,.int .i64 p,.int .i64 e])=r9 (mO s)) ->
  bF (some (false,1)) (.box b2 0) af fun r0=>bF (some (false,1)) (.box b3 0) af fun r1=>bF (some (false,1)) (.box b4 0) af fun r2=>aj R (.aG [r0,r1,r2]) af:=by
  intro af lv p e m2 m3 m4 hres
  rw [xG m2 (dQ),xG m3 (dQ),xG m4 (dQ)]
  exact aj.mk (hR _ _ (hres _))
 simp only [iZ k1,M3,List.drop,bN]
 refine (Sc s).go ?_
 simp only [bH,List.drop,bN,cg,al]
 have ej:mO s=if (mI s).2 ≠ 0 then .bad (mI s).1 (mI s).2 else fS s.length s 0 []:=rfl
 by_cases he:(mI s).2=0
 . simp only [he,bZ,cn,bG]
   rw [if_neg (by simp [he])] at ej
   rw [df]
   intro b7 lT
   have n71:=(lT.cH k1).symm
   have n72:=(lT.cH k2).symm
   have n73:=(lT.cH k3).symm
   have n74:=(lT.cH k4).symm
   have e5:=bE lT (x:=.box [.aA])
   have m7:=aS (U:=dZ) (b:=b7) (l:=[.aA])
   generalize aeN:dZ.new b7 _=eW at *
   rw [iZ (e5.bo k1),dQ,bN]
   refine TP ?_
   unfold VI
   rw [fg rfl]
   intro bs Ny
   have n7s:=Ny.cH m7
   have e6:=bE Ny (x:=.box (aC (.str s)))
   have ms:=aS (U:=eW) (b:=bs) (l:=aC (.str s))
   generalize aeO:eW.new bs _=oU at *
   rw [fg rfl]
   intro bd ZF
   have n7d:=ZF.cH (e6.bo m7)
   have e7:=bE ZF (x:=.box (aC (.func (.func 75) [] [.box b7 0])))
   have md:=aS (U:=oU) (b:=bd) (l:=aC (.func (.func 75) [] [.box b7 0]))
   generalize aeP:oU.new bd _=jN at *
   refine aj.mk ?_
   refine ⟨by kernel_rfl,fun o L ho G3 Nv Y=>?_⟩
   have Nb:=e5.trans (e6.trans e7)
   have T7:TI jN b1 b2 b3 b4 b7 bs bd s []:=⟨Nb.bo k1,⟨_,Nb.bo k2⟩,⟨_,Nb.bo k3⟩,⟨_,Nb.bo k4⟩,⟨_,(e6.trans e7).bo m7,.inl ⟨rfl,rfl,rfl⟩,fun _=>rfl⟩,e7.bo ms,md⟩
   have T8:=T7.qG (bE ho (x:=.loop L))
   have L8:=u4 (U:=jN) (b:=o) (L:=L)
   generalize aeQ:jN.new o _=Bi at *
   clear aeN aeO aeP aeQ T7 Nb e5 e6 e7 m7 ms md ho ZF Ny lT k1 k2 k3 k4
   refine P3 ?_
   unfold P0
   refine ⟨fun m v0 v1 v2 v4 af=>∃ f p l,m=s.length - p/\v0=.qI o/\v1=.box bs 0/\v2=.box bd 0/\v4=.int .i64 (p:Nat)/\p <= s.length/\s.length - p <= f/\l.length <= 900/\fS f s p l=mO s/\TI af b1 b2 b3 b4 b7 bs bd s l/\∃ L1,af.loop o=some L1/\L1.st .ready none=L/\L1.state=.ready/\L1.fM=none,
    ⟨_,s.length,0,[],rfl,rfl,rfl,rfl,rfl,by omega,by omega,by simp,ej.symm,T8,L,L8,by cases L; simp_all [fp.st],G3,Nv⟩,?_⟩
   clear T8 L8 ej he
   rintro m v0 v1 v2 v4 ub ⟨f,p,l,rfl,rfl,rfl,rfl,rfl,hp,hf,EE,ej,T,L1,jc,gD,AX,AW⟩
   rw [iZ T.hs,dQ,bN]
   simp only [gm,al,a7,bh]
   refine ⟨fun aM=>?_,fun gq=>?_⟩
   . have aM:p < s.length:=by omega
     have sD:s.drop p=s[p]::s.drop (p+1):=fU aM
     cases f with
     | zero=>omega
     | succ f =>
     simp only [fS] at ej
     rw [sD] at ej
     simp only at ej
     rw [iZ T.hs,dQ,bN,qC]
     refine ⟨by omega,?_⟩
     rw [dL,getD_at aM]
     intro jj EB
     have c32:((s[p].toNat:Int)=32)=(s[p].toNat=32):=by simp; omega
     have c10:((s[p].toNat:Int)=10)=(s[p].toNat=10):=by simp; omega
     have ad2:((s[p].toNat:Int)=126)=(s[p].toNat=126):=by simp; omega
     have blank:s[p].toNat=32\/s[p].toNat=10->jj (.qI o) (.box bs 0) (.box bd 0) (.int .i64 (p:Nat)) (.int .u8 s[p].toNat) (.bool true) ub:=fun h=>by
      refine EB _ _ _ _ _ _ _ ?_
      rw [if_pos h] at ej
      simp only [bT,cr]
      exact ⟨aW (by omega) (by omega),_,by omega,f,p+1,l,rfl,rfl,rfl,rfl,by simp,by omega,by omega,EE,ej,T,L1,jc,gD,AX,AW⟩
     have other:¬ (s[p].toNat=32\/s[p].toNat=10)->jj (.qI o) (.box bs 0) (.box bd 0) (.int .i64 (p:Nat)) (.int .u8 s[p].toNat) (.bool false) ub:=fun h=>by
      refine EB _ _ _ _ _ _ _ ?_
      rw [if_neg h] at ej
      simp only [bG,aT,al,bh,ad2]
      have after:∀ {ib:St} {L2:fp},L2={ L1 with state:=.ready,fM:=none }->L2.st .ready none=L/\L2.state=.ready/\L2.fM=none:=fun h=>by
       subst h; exact ⟨by rw [<- gD]; rfl,rfl,rfl⟩
      refine ⟨fun yV=>?_,fun yV=>?_⟩
      . rw [if_pos yV] at ej
        rw [iZ T.hs,dQ,bN]
        have hdn:((s.take s.length).drop p)=s[p]::s.drop (p+1):=by rw [oq,sD]
        simp only [kf,ic,eG,wp_cond,al,dL,hdn]
        refine ⟨⟨by omega,by omega,by omega⟩,?_⟩
        obtain ⟨y,z,aef⟩:=Sd (s[p]::s.drop (p+1)) (by rw [<- sD]; simp; omega)
        refine aef.go ?_
        have hlen:((s[p]::s.drop (p+1)).takeWhile fun c=>c.toNat ≠ 10).length <= s.length - p:=by
         rw [<- sD]; exact Nat.le_trans (qS _).length_le (by simp)
        have cV:1 <= ((s[p]::s.drop (p+1)).takeWhile fun c=>c.toNat ≠ 10).length/\((s[p]::s.drop (p+1)).takeWhile fun c=>c.toNat ≠ 10) ≠ []:=by
         rw [lL]; simp [yV]
        generalize ((s[p]::s.drop (p+1)).takeWhile fun c=>c.toNat ≠ 10)=nt at *
        simp only [bH,List.drop,bN]
        simp only [jW,x7]
        refine Y _ _ _ L1 rfl jc gD ?_
        refine ⟨L1,jc,AX,?_⟩
        have hnn:¬ nt=w_:=cV.2
        simp only [lF,al,hnn,cE,dx,bT]
        refine ⟨_,fF,?_⟩
        simp only [bL,dA,al,cn,bG,gm,cr]
        refine ⟨aW (by omega) (by omega),_,?_,f,p+nt.length,l,rfl,rfl,rfl,rfl,by simp,by omega,by omega,EE,ej,(T.qV jc).qV fF,_,fF,?_⟩
        . omega
        . exact ⟨by rw [<- gD]; rfl,rfl,rfl⟩
      . rw [if_neg yV] at ej
        simp only [jW,x7]
        refine Y _ _ _ L1 rfl jc gD ?_
        refine ⟨L1,jc,AX,?_⟩
        have T2:=T.qV (L':={ L1 with state:=.busy }) jc
        have L2:(ub.set o (.loop { L1 with state:=.busy })).loop o=some { L1 with state:=.busy }:=fF
        generalize acK:ub.set o (.loop { L1 with state:=.busy })=Ac at *
        simp only [lF,al,bZ,cn,bG]
        rw [iZ T2.h1,dQ,bN]
        have hdn:((s.take s.length).drop p)=s[p]::s.drop (p+1):=by rw [oq,sD]
        simp only [kf,ic,eG,wp_cond,al,dL,hdn]
        refine ⟨⟨by omega,by omega,by omega⟩,?_⟩
        refine (Ck (s[p]::s.drop (p+1)) (by rw [<- sD]; simp; omega)).go ?_
        cases jF:e8 (s[p]::s.drop (p+1)) with
        | mk e kt =>
        obtain ⟨k,tx⟩:=kt
        rw [jF] at ej
        simp only at ej
        simp only [It,bH,List.drop,bN]
        rw [df]
        intro jO uX
        have g11:(Ac.new jO (.box [AV.int .u8 0,AV.str [],AV.int .i64 0])).box jO=some [AV.int .u8 0,AV.str [],AV.int .i64 0]:=aS
        rw [dP g11]
        refine ⟨⟨rfl,rfl,by simp⟩,?_⟩
        have Xq:=((dD.refl Ac).new uX (x:=.box [AV.int .u8 0,AV.str [],AV.int .i64 0])).set (x:=.box (aK [AV.int .u8 0,AV.str [],AV.int .i64 0] 0 (aC (.agg [.int .u8 (k:Nat),.str tx,.int .i64 0])))) uX.1
        have m11:((Ac.new jO (.box [AV.int .u8 0,AV.str [],AV.int .i64 0])).set jO (.box (aK [AV.int .u8 0,AV.str [],AV.int .i64 0] 0 (aC (.agg [.int .u8 (k:Nat),.str tx,.int .i64 0]))))).box jO=some [.int .u8 (k:Nat),.str tx,.int .i64 0]:=by rw [bD]; rfl
        have n117:b7 ≠ jO:=uX.cH (T2.h7.choose_spec.1)
        generalize (Ac.new jO (.box [AV.int .u8 0,AV.str [],AV.int .i64 0])).set jO (.box (aK [AV.int .u8 0,AV.str [],AV.int .i64 0] 0 (aC (.agg [.int .u8 (k:Nat),.str tx,.int .i64 0]))))=x9 at *
        have T3:=T2.qG Xq
        have L3:=Xq.loop L2
        have acn:∀ (b:Nat) (x:List AV),Ac.box b=some x->b ≠ jO:=fun b x h=>uX.cH h
        clear Xq g11 uX acK
        intro j hj
        obtain ⟨v,q1,q2,q3⟩:=T3.h7
        have cont:∀ e':Int,(e' ≠ 0->mO s=.bad p e')->(e'=0->l.length < 900/\0 < tx.length/\fS f s (p+tx.length) (l++[⟨k,tx,p⟩])=mO s)->(e'=0->e=0)->j (.box b2 0) (.box b3 0) (.box b4 0) (.box b7 0) (.int .i64 (p:Nat)) (.box jO 0) (.int .i64 e') x9:=by
         intro e' SK acw ZU
         refine hj _ _ _ _ _ _ _ _ ?_
         by_cases mh:e'=0
         . obtain ⟨afR,jh,NL⟩:=acw mh
           simp only [mh,cg,al,bZ,cn,bG,ct,dI]
           rw [dP m11]
           refine ⟨⟨rfl,rfl,by simp⟩,?_⟩
           have kp:∀ {b:Nat} {x:List AV},b ≠ jO->x9.box b=some x->(x9.set jO (.box (aK [.int .u8 (k:Nat),.str tx,.int .i64 0] 2 (aC (.int .i64 (p:Nat)))))).box b=some x:=fun h1 h2=>by rw [bf h1]; exact h2
           rw [iZ (kp n117 q1),dQ,bN]
           rw [pA bD]
           refine ⟨by simp [aK],?_⟩
           have q2':Grow (x9.set jO (.box (aK [.int .u8 (k:Nat),.str tx,.int .i64 0] 2 (aC (.int .i64 (p:Nat)))))) v 51 3 l.length (eP l):=by
            rcases q2 with q2 | ⟨τ,r1,r2,r3⟩
            . exact .inl q2
            . exact .inr ⟨τ,r1,by rw [il (gg m11 r2).symm]; exact r2,r3⟩
           have yM:∀ {b:Nat} {x:List AV},x9.box b=some x->b ≠ jO->(x9.set jO (.box (aK [.int .u8 (k:Nat),.str tx,.int .i64 0] 2 (aC (.int .i64 (p:Nat)))))).box b=some x:=fun h1 h2=>kp h2 h1
           have l11:(x9.set jO (.box (aK [.int .u8 (k:Nat),.str tx,.int .i64 0] 2 (aC (.int .i64 (p:Nat)))))).loop o=some { L1 with state:=.busy }:=by
            rw [fT]; exact L3
            rw [dy,if_neg (bV m11 L3).symm]
           have G4:(List.take 3 (List.drop 0 (aK [.int .u8 (k:Nat),.str tx,.int .i64 0] 2 (aC (.int .i64 (p:Nat))))))=lB ⟨k,tx,p⟩:=by simp [aK,lB]
           rw [G4]
           generalize x9.set jO (.box (aK [.int .u8 (k:Nat),.str tx,.int .i64 0] 2 (aC (.int .i64 (p:Nat)))))=afY at *
           rw [jo]
           refine ⟨by omega,?_⟩
           rw [iY (o:=0) (s:=3) rfl]
           refine ⟨⟨rfl,rfl,by simp [cN]⟩,?_⟩
           rw [kY]
           refine ⟨rfl,?_⟩
           have Vh:=yM q1 n117
           refine Dr (m:=1) (l2:=lB ⟨k,tx,p⟩) q2' rfl rfl (by omega) (by omega) (fun h=>q3 (tS.1 h)) fun Eg v' g1 g2 g3=>?_
           obtain ⟨kb,kl⟩:=lj q2' g2
           have CE:v'.eF=true/\aC v'=[v']:=by
            rcases g1 with ⟨_,_,rfl⟩ | ⟨τ,rfl,_,_⟩ <;> exact ⟨rfl,rfl⟩
           rw [dP (kb Vh)]
           refine ⟨⟨CE.1,by rw [CE.2]; rfl,by simp⟩,?_⟩
           have kk:∀ {b:Nat} {x:List AV},b7 ≠ b->Eg.box b=some x->(Eg.set b7 (.box (aK [v] 0 (aC v')))).box b=some x:=fun h1 h2=>by rw [bf h1.symm]; exact h2
           have lo:(Eg.set b7 (.box (aK [v] 0 (aC v')))).loop o=some { L1 with state:=.busy }:=by
            rw [fT]; exact kl l11
            rw [dy,if_neg (bV (kb Vh) (kl l11)).symm]
           have DB:∀ {b:Nat} {x:List AV},Ac.box b=some x->b ≠ jO:=fun h=>acn _ _ h
           have T5:TI (Eg.set b7 (.box (aK [v] 0 (aC v')))) b1 b2 b3 b4 b7 bs bd s (l++[⟨k,tx,p⟩]):=by
            refine ⟨kk n71 (kb (yM T3.h1 (DB T2.h1))),?_,?_,?_,⟨v',by rw [bD,CE.2]; rfl,?_,fun h=>by simp at h⟩,kk n7s (kb (yM T3.hs (DB T2.hs))),kk n7d (kb (yM T3.hd (DB T2.hd)))⟩
            . obtain ⟨x,hx⟩:=T2.h2; obtain ⟨y,hy⟩:=T3.h2; exact ⟨y,kk n72 (kb (yM hy (DB hx)))⟩
            . obtain ⟨x,hx⟩:=T2.h3; obtain ⟨y,hy⟩:=T3.h3; exact ⟨y,kk n73 (kb (yM hy (DB hx)))⟩
            . obtain ⟨x,hx⟩:=T2.h4; obtain ⟨y,hy⟩:=T3.h4; exact ⟨y,kk n74 (kb (yM hy (DB hx)))⟩
            . have el:(l++[(⟨k,tx,p⟩:Tk)]).length=l.length+1:=by simp
              rw [el,rB]
              rcases g1 with ⟨h0,_⟩ | ⟨τ,r1,r2,r3⟩
              . omega
              . exact .inr ⟨τ,r1,by rw [il (gg (kb Vh) r2).symm]; exact r2,r3⟩
           have mM:∃ c,v'=.vec (l.length+1) c (eP (l++[⟨k,tx,p⟩])):=by
            rw [rB]
            rcases g1 with ⟨h0,_⟩ | ⟨τ,r1,_,_⟩
            . omega
            . exact ⟨_,r1⟩
           have h7':(Eg.set b7 (.box (aK [v] 0 (aC v')))).box b7=some [v']:=by rw [bD,CE.2]; rfl
           generalize Eg.set b7 (.box (aK [v] 0 (aC v')))=afv at *
           refine ⟨_,lo,?_⟩
           have T6:=T5.qV (L':={ L1 with state:=.ready,fM:=none }) lo
           obtain ⟨c,hc⟩:=mM
           subst hc
           have ad9:(afv.set o (.loop { L1 with state:=.ready,fM:=none })).box b7=some [.vec (l.length+1) c (eP (l++[⟨k,tx,p⟩]))]:=by rw [bf (bV h7' lo)]; exact h7'
           simp only [bL,dA,al,cn,bG]
           rw [iZ T6.hd,dQ,bN]
           simp only [show gj K.P 75=true by kernel_rfl,if_true,kO,mw,iX]
           refine Wj ad9 rfl EE ?_
           simp only [bL,cr]
           have ll:p+tx.length <= s.length:=by
            have:=(wu (s:=s[p]::s.drop (p+1)) (k:=k) (t:=tx) (by rw [jF,ZU mh])).2.length_le
            rw [<- sD] at this
            simp at this
            omega
           refine ⟨aW (by omega) (by omega),_,?_,f,p+tx.length,l++[⟨k,tx,p⟩],rfl,rfl,rfl,rfl,by simp,ll,by omega,by simp; omega,NL,T6,_,fF,by rw [<- gD]; rfl,rfl,rfl⟩
           omega
         . simp only [mh,cg,al,cE,dx,bT]
           refine st3 T3.h2 T3.h3 T3.h4 HM CR HN ⟨rfl,rfl⟩ fun ib m2 m3 m4 mo=>?_
           have ob:∀ {b:Nat},(∃ x,x9.box b=some [x])->o ≠ b:=fun ⟨x,h⟩=>(bV h L3).symm
           have L4:ib.loop o=some { L1 with state:=.busy }:=by rw [fT (mo o (ob T3.h2) (ob T3.h3) (ob T3.h4))]; exact L3
           refine ⟨_,L4,?_⟩
           simp only [bL,dA,al,dx,bT]
           refine aj.mk ⟨_,fF,by simp,?_⟩
           have kp:∀ {b:Nat} {x:List AV},o ≠ b->ib.box b=some x->((ib.set o (.loop { L1 with state:=.done,fM:=some .ret })).del o).box b=some x:=fun h1 h2=>by rw [jv h1.symm,bf h1.symm]; exact h2
           refine fin _ _ _ _ (kp (ob T3.h2) m2) (kp (ob T3.h3) m3) (kp (ob T3.h4) m4) fun cz=>?_
           rw [SK mh]; rfl
        have hlen:br (some false) v=.val (.int .i64 l.length):=by
         rcases q2 with ⟨h0,_,rfl⟩ | ⟨τ,rfl,_,_⟩
         . rw [h0]; rfl
         . rfl
        simp only [aT,al,aI,aB]
        by_cases qf:e=0
        . subst qf
          simp only [bZ,dN,bq,tQ q1,dQ,iE,iF,hlen,ax,aT,az,if_true,al,bh]
          rw [if_neg (by simp)] at ej
          refine ⟨fun SI=>?_,fun SI=>?_⟩
          . rw [if_pos (by omega)] at ej
            exact cont 5 (fun _=>ej.symm) (fun h=>by omega) (fun h=>by omega)
          . rw [if_neg (by omega)] at ej
            have jh:=(wu jF).1.1
            exact cont 0 (fun h=>absurd rfl h) (fun _=>⟨by omega,List.length_pos_iff.2 jh,ej⟩) (fun _=>rfl)
        . simp only [qf,cE,show (false == true)=false from rfl,aZ,az,bC,if_false,al,bG]
          rw [if_pos qf] at ej
          exact cont e (fun _=>ej.symm) (fun h=>absurd h qf) (fun h=>h)
     simp only [aT,al,bh,c32,c10]
     refine ⟨fun h=>?_,fun h=>?_⟩
     . simp only [h,bZ]; rw [h] at blank; exact blank (.inl rfl)
     . by_cases qH:s[p].toNat=10
       . simp only [qH,bZ]; rw [qH] at blank; exact blank (.inr rfl)
       . simp only [qH,cE]; exact other (fun h1=>h1.elim h qH)
   . have ZM:s.drop p=[]:=List.drop_eq_nil_of_le (by omega)
     have NL:mO s=.ok l:=by
      rw [<- ej]
      cases f with
      | zero=>rfl
      | succ f=>simp only [fS]; rw [ZM]
     refine aj.mk ⟨L1,jc,by rw [AX]; simp,?_⟩
     rw [AW]
     obtain ⟨v,g1,g2,g3⟩:=T.h7
     have dl:∀ {b:Nat} {x:List AV},ub.box b=some x->(ub.del o).box b=some x:=fun h=>by rw [jv (bV h jc)]; exact h
     have hv:v.eF=true/\aC v=[v]:=by
      rcases g2 with ⟨_,_,rfl⟩ | ⟨τ,rfl,_,_⟩ <;> exact ⟨rfl,rfl⟩
     show (ah (some (false,1)) (.box b7 0) (ub.del o)).wp K (ub.del o) _ _
     rw [iZ (dl g1),dQ,bN]
     refine st3 (T.h2.imp fun _ h=>dl h) (T.h3.imp fun _ h=>dl h) (T.h4.imp fun _ h=>dl h) HM CR HN hv fun ib m2 m3 m4 _=>?_
     refine fin ib _ _ _ m2 m3 m4 fun cz=>?_
     rw [NL]
     show AV.aG [resolve 4 cz v,.int .i64 0,.int .i64 0]=_
     rw [zI 2 g2 g3]
     rfl
 . simp only [he,cE,dx,bT]
   rw [if_pos he] at ej
   refine st3 ⟨_,k2⟩ ⟨_,k3⟩ ⟨_,k4⟩ HM CR HN ⟨rfl,rfl⟩ fun eW m2 m3 m4 _=>?_
   exact fin eW _ _ _ m2 m3 m4 fun ib=>by rw [ej]; rfl
end Go.Rip
