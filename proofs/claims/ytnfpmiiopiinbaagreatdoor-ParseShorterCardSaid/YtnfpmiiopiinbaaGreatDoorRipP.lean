/- Lemmas for the proof: no conditions. -/
import Derived.Test.YtnfpmiiopiinbaaGreatDoorRipZz
import Derived.Test.YtnfpmiiopiinbaaGreatDoorRipN
import Derived.Test.YtnfpmiiopiinbaaGreatDoorRipE
import Derived.Test.YtnfpmiiopiinbaaGreatDoorRipF
set_option linter.unusedVariables false
set_option linter.unusedSimpArgs false
set_option linter.loopingSimpArgs false
namespace Go.Rip
open Go.Proofs Go.RowKit
def cls (c:Int):Int:=if c=32\/c=10 then 1 else if c < 32\/c > 126 then 0 else if 48 <= c/\c <= 57 then 2 else if 97 <= c/\c <= 122 then 3 else if 65 <= c/\c <= 90 then 4 else 5
theorem HD (c:Int):Pure K 216 [.int .u8 c] (.int .i64 (cls c)):=by
 intro U R hR
 refine SD ?_
 simp (contextual:=true) only [SC,DB,BD,bu,cq,lq,eQ,iq,aj,bj,aP,rE,cI,cC,aJ,aM,mA,abV,ca,bG,bp,dZ,eX,ite_true,ite_false,beq_true,beq_false,du,fD,ee,if_true,if_false,true_and,and_true,not_true,not_false_iff]
 repeat' (first | refine And.intro ?_ ?_ | intro _)
 all_goals (refine al.eq hR ?_; simp only [cls,AV.int.injEq,true_and])
 all_goals grind
def IJ (l:List Int) (s:Int):Int:=match l.findIdx? (·=s) with | some i=>i | none=>-1
theorem Kt (c:mg) (l:List Int) (s:Int) (hn:l.length <= 100000):Pure K 246 [.vec l.length c (l.map (.int .i64)),.int .i64 s] (.int .i64 (IJ l s)):=by
 intro U R hR
 refine S0 ?_
 simp only [SZ,ua,aj]
 refine ⟨fun m v0 v1 v7 v8 ad=>∃ i:Nat,m=l.length - i/\i <= l.length/\v0=.vec l.length c (l.map (.int .i64))/\v1=.int .i64 s/\v7=.int .i64 l.length/\v8=.int .i64 i/\ad=U/\∀ j,j < i->l[j]? ≠ some s,⟨l.length,0,by simp [Fn.app]⟩,?_⟩
 intro m v0 v1 v7 v8 ad hI
 obtain ⟨i,rfl,hi,rfl,rfl,rfl,rfl,rfl,jC⟩:=hI
 simp only [cq,aj,ca]
 refine ⟨fun aQ=>?_,fun lI=>?_⟩
 . have aQ:i < l.length:=by omega
   have hd:(l.map (AV.int .i64)).drop (i * 1)=.int .i64 l[i]::(l.map (AV.int .i64)).drop (i+1):=by
    rw [Nat.mul_one,ib (by simpa using aQ)]; simp
   simp only [yX,wp_cond,aj,jH,hd,vn,dF,bu,ca]
   refine ⟨by omega,fun he=>?_,fun cr=>?_⟩
   . refine al.eq hR ?_
     have:l.findIdx? (·=s)=some i:=by
      rw [Jp]
      refine ⟨aQ,by simp [he],fun j hj=>?_⟩
      have:=jC j hj
      rw [pU (by omega)] at this
      simpa using this
     simp [IJ,this]
   . simp only [mI,ij,wp_cond,aj]
     refine ⟨bK (by omega) (by omega),?_⟩
     refine ⟨l.length - (i+1),by omega,i+1,rfl,by omega,rfl,rfl,rfl,by simp,rfl,fun j hj=>?_⟩
     rcases kO j i with h | h
     . exact jC j h
     . have:j=i:=by omega
       subst this
       rw [pU aQ]; simpa using fun h=>cr h.symm
 . refine al.eq hR ?_
   have:l.findIdx? (·=s)=none:=by
    rw [List.findIdx?_eq_none_iff]
    intro x hx
    obtain ⟨j,hj,rfl⟩:=List.getElem_of_mem hx
    have:=jC j (by omega)
    rw [pU hj] at this
    simpa using this
   simp [IJ,this]
theorem Kq (l:List Int) (s:Int):decide (0 <= IJ l s)=decide (s ∈ l):=by
 unfold IJ
 split
 . rename_i j hj
   obtain ⟨h1,h2,_⟩:=Jp.1 hj
   have:s ∈ l:=by have:=of_decide_eq_true h2; exact this ▸ List.getElem_mem h1
   simp [this]
 . rename_i hj
   rw [List.findIdx?_eq_none_iff] at hj
   have:s ∉ l:=fun hm=>by simpa using hj s hm
   simp [this]
theorem xT (c:Int) (cp:mg) (l:List Int) (hn:l.length <= 100000):Pure K 151 [.int .u8 c,.vec l.length cp (l.map (.int .i64))] (.bool (decide (cls c ∈ l))):=by
 intro U R hR
 refine RM ?_
 refine (HD c).go ?_
 refine SB ?_
 refine (Kt cp l (cls c) hn).go ?_
 simp only [iq,aj,Kq]
 exact al.mk (al.mk hR)
theorem FH (c:UInt8):decide (cls c.toNat ∈ [2])=gd c:=by
 unfold cls gd
 rw [pW]
 simp only [jX,ee]
 grind
theorem P6 (c:UInt8):decide (cls c.toNat ∈ [3])=lT c:=by
 unfold cls lT
 rw [pW]
 simp only [jX,ee]
 grind
theorem P3 (c:UInt8):decide (cls c.toNat ∈ [2,3,4])=c8 c:=by
 unfold cls c8 gd lT G0
 rw [pW]
 simp only [cJ,List.not_mem_nil,or_false,ee,jW]
 grind
theorem P5 (c:UInt8):(!decide (cls c.toNat ∈ [0]))=lS c:=by
 unfold cls lS
 rw [pW]
 simp only [jX,ee,Bool.not_eq_true',decide_eq_false_iff_not]
 grind
theorem Ku (c:UInt8):Pure K 146 [.int .u8 c.toNat] (.bool (lS c)):=by
 intro U R hR
 refine RD ?_
 unfold RC
 rw [gG]
 refine ⟨by omega,?_⟩
 rw [eJ (o:=0) (s:=1) rfl]
 refine ⟨⟨rfl,rfl,by simp [bO]⟩,?_⟩
 rw [ik]
 refine ⟨rfl,?_⟩
 refine (xT c.toNat .full [0] (by simp)).go ?_
 simp only [eI,aj,P5]
 exact al.mk hR
theorem getD_at {s:aG} {i:Nat} (h:i < s.length):s.getD i 0=s[i]:=by simp [nG,h]
theorem TP (s:aG):Pure K 74 [.str s] (.aH [.int .i64 (sb s).1,.int .i64 (sb s).2]):=by
 intro U R hR
 refine Vx ?_
 unfold Xv
 simp only [mc,aj,eQ,ca]
 unfold sb at hR
 refine ⟨fun h=>?_,fun h=>?_⟩
 . rw [if_pos (by omega)] at hR
   exact al.mk hR
 . rw [if_neg (by omega)] at hR
   refine ⟨fun m v0 v9 v10 ad=>∃ i:Nat,m=s.length - i/\i <= s.length/\v0=.str s/\v9=.int .i64 s.length/\v10=.int .i64 i/\ad=U/\∀ j (hj:j < s.length),j < i->lS s[j]=true,⟨s.length,0,by simp [Fn.app]⟩,?_⟩
   rintro m v0 v9 v10 ad ⟨i,rfl,hi,rfl,rfl,rfl,rfl,cm⟩
   simp only [cq,aj,ca]
   refine ⟨fun aQ=>?_,fun lI=>?_⟩
   . have aQ:i < s.length:=by omega
     rw [yE]
     refine ⟨by omega,?_⟩
     rw [jH,getD_at aQ]
     refine (Ku s[i]).go ?_
     simp only [eI,aj]
     cases hb:lS s[i] with
     | false =>
       simp only [fD,bG]
       have:s.findIdx? (fun c=>!lS c)=some i:=by
        rw [Jp]
        exact ⟨aQ,by simp [hb],fun j hj=>by simp [cm j (by omega) hj]⟩
       rw [this] at hR
       exact al.mk hR
     | true =>
       simp only [du,bp,dO]
       refine ⟨bK (by omega) (by omega),s.length - (i+1),by omega,i+1,rfl,by omega,rfl,rfl,by simp,rfl,fun j hj zx=>?_⟩
       rcases kO j i with h | h
       . exact cm j hj h
       . have:j=i:=by omega
         subst this; exact hb
   . have:s.findIdx? (fun c=>!lS c)=none:=by
      rw [List.findIdx?_eq_none_iff]
      intro x hx
      obtain ⟨j,hj,rfl⟩:=List.getElem_of_mem hx
      simp [cm j hj (by omega)]
     rw [this] at hR
     exact al.mk hR
theorem y0 {p:UInt8->Bool}:∀ {l:aG},(∀ x ∈ l,p x=true)->l.takeWhile p=l
 | [],_=>rfl
 | c::l,h=>by rw [l9,h c (by simp)]; simp [y0 (l:=l) fun x hx=>h x (by simp [hx])]
theorem run_pure (s:aG) (hs:s.length <= 100000):Pure K 149 [.str s] (.int .i64 (s.takeWhile c8).length):=by
 intro U R hR
 refine RI ?_
 unfold RH
 refine ⟨fun m v0 v2 ad=>∃ i:Nat,m=s.length - i/\i <= s.length/\v0=.str s/\v2=.int .i64 i/\ad=U/\∀ j (hj:j < s.length),j < i->c8 s[j]=true,⟨s.length,0,by simp [Fn.app]⟩,?_⟩
 rintro m v0 v2 ad ⟨i,rfl,hi,rfl,rfl,rfl,cm⟩
 have si:(s.take i).takeWhile c8=s.take i:=by
  refine y0 fun x hx=>?_
  obtain ⟨j,hj,rfl⟩:=List.getElem_of_mem hx
  simp only [List.length_take] at hj
  rw [List.getElem_take]
  exact cm j (by omega) (by omega)
 have Bt:s.takeWhile c8=s.take i++(s.drop i).takeWhile c8:=by
  conv=>lhs; rw [<- List.take_append_drop i s]
  rw [List.takeWhile_append,si]
  simp
 simp only [mc,aj,cq,bj,aP]
 by_cases aQ:i < s.length
 . have tj:(i:Int) < s.length:=by omega
   simp only [tj,dZ,iJ,cI,aJ,G8,mA,jH,getD_at aQ]
   refine ⟨by simp,?_⟩
   rw [yl]
   refine ⟨by omega,?_⟩
   rw [uH (o:=0) (s:=1) rfl]
   refine ⟨⟨rfl,rfl,by simp [bO]⟩,?_⟩
   rw [uH (o:=1) (s:=1) rfl]
   refine ⟨⟨rfl,rfl,by simp [bO,aA]⟩,?_⟩
   rw [uH (o:=2) (s:=1) rfl]
   refine ⟨⟨rfl,rfl,by simp [bO,aA]⟩,?_⟩
   rw [AP]
   refine ⟨rfl,_,xT s[i].toNat .full [2,3,4] (by simp),?_⟩
   rw [P3]
   simp only [aM,if_true,aj]
   have hd:s.drop i=s[i]::s.drop (i+1):=ib aQ
   cases hb:c8 s[i] with
   | true =>
     simp only [bG,dO]
     refine ⟨bK (by omega) (by omega),s.length - (i+1),by omega,i+1,rfl,by omega,rfl,by simp,rfl,fun j hj zx=>?_⟩
     rcases kO j i with h | h
     . exact cm j hj h
     . have:j=i:=by omega
       subst this; exact hb
   | false =>
     simp only [bp]
     refine al.eq hR ?_
     rw [Bt,hd,l9,hb]
     simp
     omega
 . have tj:¬ (i:Int) < s.length:=by omega
   simp only [tj,eX,show (false == true)=false from rfl,cC,aM,bQ,if_false,aj,bp]
   refine al.eq hR ?_
   rw [Bt,List.drop_eq_nil_of_le (by omega)]
   simp; omega
end Go.Rip
namespace Go.Rip
open Go.Proofs Go.RowKit
theorem Qt {s:aG} {i:Nat} (h:i < s.length):kj 0 (s.take (i+1))=min (10 * kj 0 (s.take i)+((s[i].toNat:Int) - 48)) 1000001:=by
 have:s.take (i+1)=s.take i++[s[i]]:=by rw [sx,pU h]; rfl
 rw [this]
 unfold kj
 rw [List.foldl_append]
 rfl
theorem KE (s:aG) (hs:s.length <= 100000):Pure K 152 [.str s] (.int .i64 (oW s)):=by
 intro U R hR
 refine RO ?_
 unfold RN
 simp only [mc,aj]
 refine ⟨fun m v0 v3 v6 v7 ad=>∃ i:Nat,m=s.length - i/\i <= s.length/\v0=.str s/\v3=.int .i64 (kj 0 (s.take i))/\v6=.int .i64 s.length/\v7=.int .i64 i/\ad=U/\(s.take i).all gd=true,⟨s.length,0,by simp [Fn.app,kj]⟩,?_⟩
 rintro m v0 v3 v6 v7 ad ⟨i,rfl,hi,rfl,rfl,rfl,rfl,rfl,cm⟩
 have hb:=EC (s.take i) 0 (by omega)
 have Bg:=ub (s.take i) 0 cm (by omega)
 simp only [cq,aj,ca]
 refine ⟨fun aQ=>?_,fun lI=>?_⟩
 . have aQ:i < s.length:=by omega
   rw [yE]
   refine ⟨by omega,?_⟩
   rw [jH,getD_at aQ,gG]
   refine ⟨by omega,?_⟩
   rw [eJ (o:=0) (s:=1) rfl]
   refine ⟨⟨rfl,rfl,by simp [bO]⟩,?_⟩
   rw [ik]
   refine ⟨rfl,?_⟩
   refine (xT s[i].toNat .full [2] (by simp)).go ?_
   rw [FH]
   simp only [eI,aj]
   have fV:s.take (i+1)=s.take i++[s[i]]:=by rw [sx,pU aQ]; rfl
   cases hd:gd s[i] with
   | false =>
     simp only [fD,bG]
     refine al.eq hR ?_
     have:s.all gd=false:=by
      rw [Bool.eq_false_iff]
      intro h
      rw [fe] at h
      rw [h s[i] (List.getElem_mem aQ)] at hd
      cases hd
     simp [oW,this]
   | true =>
     have hc:=iX.1 hd
     simp only [du,bp,aeQ]
     refine ⟨bK (by omega) (by omega),?_⟩
     rw [yE]
     refine ⟨by omega,?_⟩
     rw [jH,getD_at aQ]
     have hw:IntKind.u8.wrap ((s[i].toNat:Int) - 48)=(s[i].toNat:Int) - 48:=by
      show ((s[i].toNat:Int) - 48) % 256=_
      omega
     simp only [mJ,TG,aj,hw,GV,wp_cond,dO,YA]
     refine ⟨bK (by omega) (by omega),bK (by omega) (by omega),bK (by omega) (by omega),?_⟩
     refine ⟨s.length - (i+1),by omega,i+1,rfl,by omega,rfl,?_,rfl,by simp,rfl,?_⟩
     . rw [Qt aQ]
       congr 1
       omega
     . rw [fV,List.all_append,cm]; simp [hd]
 . have hi:i=s.length:=by omega
   subst hi
   rw [tq] at cm hb Bg ⊢
   have hv:Jh s=kj 0 s:=rfl
   simp only [mc,aj,eQ,bj,aP]
   by_cases h1:1 < s.length
   . have uk:(1:Int) < s.length:=by omega
     simp only [uk,dZ,iJ,cI,aJ,G8,mA,bu,aM,if_true,aj,ca]
     have h0:s.getD (0:Int).toNat 0=s[0]:=getD_at (by omega)
     rw [h0]
     have hh:s.head?=some s[0]:=by
      cases s with
      | nil=>simp at h1
      | cons c r=>rfl
     refine ⟨⟨by omega,by omega⟩,fun Po=>?_,fun Po=>⟨fun hm=>?_,fun hm=>?_⟩⟩
     . refine al.eq hR ?_
       have e48:s[0].toNat=(48:UInt8).toNat:=by show s[0].toNat=48; omega
       have:s[0]=48:=UInt8.toNat_inj.1 e48
       simp [oW,cm,h1,hh,this]
     . refine al.eq hR ?_
       have:¬ s[0]=48:=fun e=>Po (by rw [e]; rfl)
       simp [oW,cm,hh,this,hv,hm]
     . refine al.eq hR ?_
       have:¬ s[0]=48:=fun e=>Po (by rw [e]; rfl)
       simp [oW,cm,hh,this,hv,hm]
   . have uk:¬ (1:Int) < s.length:=by omega
     simp only [uk,eX,show (false == true)=false from rfl,cC,aM,bQ,if_false,aj,bp,ca]
     refine ⟨fun hm=>?_,fun hm=>?_⟩
     . refine al.eq hR ?_
       simp [oW,cm,h1,hv,hm]
     . refine al.eq hR ?_
       simp [oW,cm,h1,hv,hm]
theorem wG (s p:aG):Pure K 213 [.str s,.str p] (.bool (p.isPrefixOf s)) :=
 Pure.Cd (vs:=[.string ⟨s.toArray⟩,.string ⟨p.toArray⟩]) (v:=.bool (p.isPrefixOf s)) (fun g us h=>by
  simp only [aD,ay] at h
  obtain ⟨_,_,rfl,rfl,_,_,rfl,rfl,rfl⟩:=h; rfl) (fun g=>by simp only [ay]) fun w=>Tryz.strings_HasPrefix ⟨s.toArray⟩ ⟨p.toArray⟩ w
theorem yw (s:aG):(iN.find? fun x=>x.isPrefixOf s)=if bL.isPrefixOf s then some bL else if fF.isPrefixOf s then some fF else match s with
 | []=>none
 | c::_=>if c ∈ et then some [c] else none:=by
 cases s with
 | nil=>rfl
 | cons c r =>
   by_cases h1:bL.isPrefixOf (c::r)=true
   . simp only [iN,List.find?_cons,h1,if_true]
   . by_cases h2:fF.isPrefixOf (c::r)=true
     . simp only [iN,List.find?_cons,h1,h2,if_true,bQ,if_false]
     . simp only [iN,List.find?_cons,h1,h2,bQ,if_false]
       have e:∀ x:UInt8,[x].isPrefixOf (c::r)=(x == c):=fun x=>by simp [List.isPrefixOf]
       simp only [show gk=[61] from rfl,show sO=[60] from rfl,show sN=[43] from rfl,show rO=[45] from rfl,show tT=[42] from rfl,show lZ=[33] from rfl,show cB=[40] from rfl,show cg=[41] from rfl,show nf=[123] from rfl,show qq=[125] from rfl,show cw=[44] from rfl,show cn=[59] from rfl,show cW=[58] from rfl,show tU=[46] from rfl,e]
       by_cases hc:c ∈ et
       . rw [if_pos hc]
         simp only [et,cJ,List.not_mem_nil,or_false] at hc
         rcases hc with rfl | rfl | rfl | rfl | rfl | rfl | rfl | rfl | rfl | rfl | rfl | rfl | rfl | rfl <;> rfl
       . rw [if_neg hc]
         simp only [et,cJ,List.not_mem_nil,or_false,not_or] at hc
         have f:∀ x:UInt8,¬ c=x->(x == c)=false:=fun x h=>by simp [Ne.symm h]
         simp only [f _ hc.1,f _ hc.2.1,f _ hc.2.2.1,f _ hc.2.2.2.1,f _ hc.2.2.2.2.1,f _ hc.2.2.2.2.2.1,f _ hc.2.2.2.2.2.2.1,f _ hc.2.2.2.2.2.2.2.1,f _ hc.2.2.2.2.2.2.2.2.1,f _ hc.2.2.2.2.2.2.2.2.2.1,f _ hc.2.2.2.2.2.2.2.2.2.2.1,f _ hc.2.2.2.2.2.2.2.2.2.2.2.1,f _ hc.2.2.2.2.2.2.2.2.2.2.2.2.1,f _ hc.2.2.2.2.2.2.2.2.2.2.2.2.2,List.find?_nil]
theorem IK (l:List UInt8) (c:UInt8):decide (Lib.indexByte l c < 0)=!decide (c ∈ l):=by
 induction l with
 | nil=>simp [Lib.indexByte]
 | cons b l ih =>
   have hg:=Lib.indexByte_ge l c
   unfold Lib.indexByte
   by_cases h:b=c
   . subst h; simp
   . have hc:¬ c=b:=fun e=>h e.symm
     have h':(b == c)=false:=by simp [h]
     rw [h']
     by_cases hm:c ∈ l
     . simp only [hm,dZ,du,decide_eq_false_iff_not] at ih
       have h2:(Lib.indexByte l c == -1)=false:=by simp; omega
       simp [h2,hm]; omega
     . simp only [hm,eX,fD,ee] at ih
       have h2:(Lib.indexByte l c == -1)=true:=by simp; omega
       simp [h2,hm,hc]
def Ad (s:aG):Int × Nat × aG:=match iN.find? fun x=>x.isPrefixOf s with | some x=>(0,4,x) | none=>(4,0,[])
def JS (p:Int × Nat × aG):AV:=.aH [.agg [.int .u8 p.2.1,.str p.2.2,.int .i64 0],.int .i64 p.1]
theorem Td (s:aG) (hs:s.length <= 100000):Pure K 150 [.str s] (JS (Ad s)):=by
 refine Pure.of rfl rfl (fun U=>rfl) fun R hR=>?_
 refine RL ?_
 unfold RJ
 rw [cZ]
 intro b hb
 generalize p8:(bV _).new b _=U
 have jM:U.box b=some [AV.int .u8 0,AV.str [],AV.int .i64 0]:=by rw [<- p8]; exact aK
 clear p8 hb
 have V6:∀ {K':AV->St->Prop} {Kp:AV->St->Prop} {z:List AV} {ps:List (Nat × AV)} {U:St},(ek none (some z) (some (2,9,1)) ps).wp K U K' Kp=(gI (fun i=>some (i * 1,1)) ps z fun z=>.val (.agg z)).wp K U K' Kp:=rfl
 rw [V6,eJ (o:=0) (s:=1) rfl]
 refine ⟨⟨rfl,rfl,by simp⟩,?_⟩
 rw [eJ (o:=1) (s:=1) rfl]
 refine ⟨⟨rfl,rfl,by simp [aA]⟩,?_⟩
 rw [Zh]
 have fin:∀ (k:Nat) (x:aG) (e:Int) (ps:List (Nat × AV)) (ad:St),ad.box b=some [AV.int .u8 0,AV.str [],AV.int .i64 0]->tg [(0,1),(1,1),(2,1)] ps [AV.int .u8 0,AV.str [],AV.int .i64 0]=some [.int .u8 k,.str x,.int .i64 0]->Ad s=(e,k,x) ->
  (ek (some [(0,1),(1,1),(2,1)]) (some [AV.int .u8 0,AV.str [],AV.int .i64 0]) none ps).wp K ad (fun v U=>(aI (some (true,3)) (.box b 0) v U).wp K U (fun _ U=>bF (some (true,3)) (.box b 0) U fun r0=>al R (.aH [r0,.int .i64 e]) U) (aa R)) (aa R):=by
  intro k x e ps ad fC h1 h2
  refine pM _ h1 ?_
  rw [dk fC]
  refine ⟨⟨rfl,rfl,by simp⟩,?_⟩
  rw [vD a7]
  refine ⟨by simp [aA],?_⟩
  rw [h2] at hR
  exact al.eq (hR _) rfl
 refine ⟨fun m v0 v2 v6 v7 ad=>∃ i:Nat,m=2 - i/\i <= 2/\v0=.str s/\v2=.box b 0/\v6=.agg [.str bL,.str fF]/\v7=.int .i64 i/\ad.box b=some [AV.int .u8 0,AV.str [],AV.int .i64 0]/\(0 < i->bL.isPrefixOf s=false)/\(1 < i->fF.isPrefixOf s=false),
  ⟨2,0,rfl,by omega,rfl,rfl,rfl,rfl,jM,by simp,by simp⟩,?_⟩
 rintro m v0 v2 v6 v7 ad ⟨i,rfl,hi,rfl,rfl,rfl,rfl,fC,C4,hn1⟩
 simp only [cq,aj,ca]
 refine ⟨fun aQ=>?_,fun lI=>?_⟩
 . have aQ:i < 2:=by omega
   obtain rfl | rfl:i=0\/i=1:=by omega
   . simp only [hX,wp_cond]
     refine ⟨by omega,?_⟩
     simp only [show ((0:Nat):Int).toNat * 1=0 from rfl,List.drop,jf,aj]
     refine (wG s bL).go ?_
     cases hp:bL.isPrefixOf s with
     | true =>
       simp only [bG]
       refine fin 4 bL 0 _ ad fC rfl ?_
       simp [Ad,yw,hp]
     | false =>
       simp only [bp,dO]
       exact ⟨bK (by omega) (by omega),1,by omega,1,rfl,by omega,rfl,rfl,rfl,rfl,fC,fun _=>by first | exact hp | trivial,by simp⟩
   . simp only [hX,wp_cond]
     refine ⟨by omega,?_⟩
     simp only [show ((1:Nat):Int).toNat * 1=1 from rfl,List.drop,jf,aj]
     refine (wG s fF).go ?_
     cases hp:fF.isPrefixOf s with
     | true =>
       simp only [bG]
       refine fin 4 fF 0 _ ad fC rfl ?_
       simp [Ad,yw,hp,C4 (by omega)]
     | false =>
       simp only [bp,dO]
       exact ⟨bK (by omega) (by omega),0,by omega,2,rfl,by omega,rfl,rfl,rfl,rfl,fC,fun _=>C4 (by omega),fun _=>by first | exact hp | trivial⟩
 . have hi2:i=2:=by omega
   subst hi2
   have p0:=C4 (by omega)
   have p1:=hn1 (by omega)
   simp only [ln,aj,bj,aP]
   cases s with
   | nil =>
     simp only [show w_=([]:List UInt8) from rfl,dZ,show (true == false)=false from rfl,cC,aM,if_true,aj,bG]
     exact fin 0 [] 4 _ ad fC rfl rfl
   | cons c r =>
     have cr:¬ (c::r=w_):=by simp [show w_=([]:List UInt8) from rfl]
     simp only [cr,eX,iJ,cI,aJ,G8,mA,aM,bQ,if_false,aj]
     refine ⟨by simp,_,wU et c.toNat,?_⟩
     simp only [cq,aJ,aM,bQ,if_false,aj]
     have Wp:((c.toNat:Int).toNat).toUInt8=c:=by simp
     rw [Wp,IK]
     cases hm:decide (c ∈ et) with
     | false =>
       have PH:¬ c ∈ et:=by simpa using hm
       simp only [fD,bG]
       refine fin 0 [] 4 _ ad fC rfl ?_
       simp [Ad,yw,p0,p1,PH]
     | true =>
       have PH:c ∈ et:=by simpa using hm
       simp only [du,bp,ta,nY,ki,wp_cond,aj]
       refine ⟨⟨by omega,by omega,by simp; omega⟩,?_⟩
       refine fin 4 [c] 0 _ ad fC rfl ?_
       simp [Ad,yw,p0,p1,PH]
end Go.Rip
namespace Go.Rip
open Go.Proofs Go.RowKit
theorem I7 (s:aG):∀ l:List aG,oe .s (.str s) (.bool false) false (l.map .str) (l.map fun _=>.bool true)=.val (.bool (decide (s ∈ l)))
 | []=>by simp [oe]
 | x::l=>by
   simp only [eh,oe,iy]
   by_cases h:s=x
   . subst h; simp
   . rw [show (s == x)=false by simp [h]]
     have:=I7 s l
     simp only [bQ,if_false,this]
     simp [h]
theorem Ty:D3=.ga (k0.map .str) (k0.map fun _=>.bool true):=rfl
theorem Ov (s:aG) (U:St):eB (some (.s,4)) (some (AV.bool false)) D3 (.str s) false U=.val (.bool (decide (s ∈ k0))):=by
 rw [Ty]
 simp only [eB,kH,ql]
 exact I7 s k0
theorem CO (s:aG) (hs:s.length <= 100000):Pure K 77 [.str s] (JS (ic s)):=by
 refine Pure.of rfl rfl (fun U=>rfl) fun R hR=>?_
 refine VA ?_
 unfold Xy
 rw [cZ]
 intro b hb
 generalize p8:(bV _).new b _=U
 have jM:U.box b=some [AV.int .u8 0,AV.str [],AV.int .i64 0]:=by rw [<- p8]; exact aK
 clear p8 hb
 refine (run_pure s hs).go ?_
 have si:s.take (s.takeWhile c8).length=s.takeWhile c8:=by
  have:=wb c8 (l:=s)
  exact (List.prefix_iff_eq_take.1 this).symm
 have hle:(s.takeWhile c8).length <= s.length:=(wb c8).length_le
 simp only [ta,nY,ki,wp_cond,aj,jH,si,show (0:Int).toNat=0 from rfl,eD,ln,ca]
 refine ⟨⟨by omega,by omega,by omega⟩,fun h0=>?_,fun h0=>?_⟩
 . have h0:s.takeWhile c8=[]:=h0
   refine (Td s hs).go ?_
   simp only [JS,bD,List.drop,bC]
   rw [dk jM]
   refine ⟨⟨rfl,rfl,by simp⟩,?_⟩
   rw [vD a7]
   refine ⟨by simp [aA],al.eq (hR _) ?_⟩
   have:ic s=Ad s:=by unfold ic Ad; rw [h0]; rfl
   rw [this]; rfl
 . cases hw:s.takeWhile c8 with
   | nil=>exact absurd hw h0
   | cons c r =>
     have hlw:(c::r).length <= s.length:=by rw [<- hw]; exact hle
     have ht:ic s=if gd c then (oW (c::r),2,c::r) else if lT c=false then (4,0,[]) else if (c::r) ∈ k0 then (0,3,c::r) else if 12 < (c::r).length then (4,0,[]) else (0,1,c::r):=by
      unfold ic; rw [hw]
     have fin:∀ (k:Nat) (x:aG) (e:Int) (zs:List AV) (ad:St),zs=[.int .u8 k,.str x,.int .i64 0]->ad.box b=some [AV.int .u8 0,AV.str [],AV.int .i64 0]->ic s=(e,k,x) ->
      (aI (some (true,3)) (.box b 0) (.agg zs) ad).wp K ad (fun _ U=>bF (some (true,3)) (.box b 0) U fun r0=>al R (.aH [r0,.int .i64 e]) U) (aa R):=by
      intro k x e zs ad hz fC h2
      subst hz
      rw [dk fC]
      refine ⟨⟨rfl,rfl,by simp⟩,?_⟩
      rw [vD a7]
      refine ⟨by simp [aA],?_⟩
      rw [h2] at hR
      exact al.eq (hR _) rfl
     have one:∀ (cl:Int) (K':AV->St->Prop) (ad:St),K' (.bool (decide (cls c.toNat ∈ [cl]))) ad ->
      (hX true none none (.str (c::r)) (.int .i64 0)).wp K ad (fun cA U=>(ar (some (178,1)) (some [AV.int .i64 0]) 1 false [(0,(AV.int .i64 cl))]).wp K U (fun de U=>ae K 151 [cA,de] U (ag K' (aa R))) (aa R)) (aa R):=by
      intro cl K' ad h
      rw [yE]
      refine ⟨⟨by omega,by simp⟩,?_⟩
      rw [gG]
      refine ⟨by omega,?_⟩
      rw [eJ (o:=0) (s:=1) rfl]
      refine ⟨⟨rfl,rfl,by simp [bO]⟩,?_⟩
      rw [ik]
      refine ⟨rfl,?_⟩
      exact (xT c.toNat .full [cl] (by simp)).go h
     refine one 2 _ _ ?_
     rw [FH]
     cases hd:gd c with
     | true =>
       simp only [bG]
       refine pM [.int .u8 2,.str (c::r),.int .i64 0] rfl ?_
       refine (KE (c::r) (by omega)).go ?_
       exact fin 2 (c::r) _ _ _ rfl jM (by rw [ht,if_pos hd])
     | false =>
       simp only [bp]
       refine one 3 _ _ ?_
       rw [P6]
       simp only [eI,aj]
       have yQ:¬ (gd c=true):=by rw [hd]; simp
       cases p7:lT c with
       | false =>
         simp only [fD,bG]
         refine pM [.int .u8 0,.str [],.int .i64 0] rfl ?_
         exact fin 0 [] _ _ _ rfl jM (by rw [ht,if_neg yQ,if_pos p7])
       | true =>
         have eU:¬ (lT c=false):=by rw [p7]; simp
         simp only [du,bp]
         refine D5.go ?_
         simp only [Ov,aj,ca,mc,eQ]
         refine ⟨fun hk=>?_,fun hk=>⟨fun hl=>?_,fun hl=>?_⟩⟩
         . refine pM [.int .u8 3,.str (c::r),.int .i64 0] rfl ?_
           exact fin 3 (c::r) _ _ _ rfl jM (by rw [ht,if_neg yQ,if_neg eU,if_pos hk])
         . refine pM [.int .u8 0,.str [],.int .i64 0] rfl ?_
           exact fin 0 [] _ _ _ rfl jM (by rw [ht,if_neg yQ,if_neg eU,if_neg hk,if_pos (by omega)])
         . refine pM [.int .u8 1,.str (c::r),.int .i64 0] rfl ?_
           exact fin 1 (c::r) _ _ _ rfl jM (by rw [ht,if_neg yQ,if_neg eU,if_neg hk,if_neg (by omega)])
end Go.Rip
namespace Go.Rip
open Go.Proofs Go.RowKit
theorem DP (u:aG):(Lib.indexByte u 10=-1/\u.takeWhile (fun c=>c.toNat ≠ 10)=u)\/∃ k:Nat,Lib.indexByte u 10=k/\k < u.length/\u.takeWhile (fun c=>c.toNat ≠ 10)=u.take k:=by
 have nw:∀ c:UInt8,c.toNat=10 ↔ c=10:=fun c=>⟨fun h=>UInt8.toNat_inj.1 h,fun h=>by rw [h]; rfl⟩
 induction u with
 | nil=>left; exact ⟨rfl,rfl⟩
 | cons b u ih =>
   unfold Lib.indexByte
   by_cases hb:b=10
   . right
     refine ⟨0,by simp [hb],by simp,?_⟩
     rw [l9]
     simp [(nw b).2 hb]
   . have fC:(b == 10)=false:=by simp [hb]
     have hn:(decide (b.toNat ≠ 10))=true:=by simp [nw,hb]
     rw [l9,hn]
     rcases ih with ⟨h1,h2⟩ | ⟨k,h1,h2,h3⟩
     . left; rw [h1,h2]; simp [fC]
     . right
       refine ⟨k+1,?_,by simp; omega,?_⟩
       . rw [h1,fC]
         have:((k:Int) == -1)=false:=by simp
         simp [this]
       . simp only [if_true,List.take_succ_cons,h3]
theorem TQ (u:aG) (hu:u.length <= 100000):∃ y z,Pure K 148 [.str u,.str rN] (.aH [.str (u.takeWhile fun c=>c.toNat ≠ 10),y,z]):=by
 have go:∀ x y z,Pure K 212 [.str u,.str rN] (.aH [x,y,z])->Pure K 148 [.str u,.str rN] (.aH [x,y,z]):=fun x y z h U R hR=>by
  refine RG ?_
  refine h.go ?_
  simp only [bD,List.drop,bC]
  exact al.mk hR
 have hi:=wV u 10
 rcases DP u with ⟨h1,h2⟩ | ⟨k,h1,h2,h3⟩
 . refine ⟨_,_,go _ (.str w_) (.bool false) fun U R hR=>?_⟩
   refine Gr ?_
   refine hi.go ?_
   rw [h1]
   simp only [iq,aj,show decide ((0:Int) <= -1)=false from rfl,bp]
   rw [h2] at hR
   exact al.mk hR
 . refine ⟨_,_,go _ (.str (u.drop (k+1))) (.bool true) fun U R hR=>?_⟩
   refine Gr ?_
   refine hi.go ?_
   rw [h1]
   have h0:decide ((0:Int) <= (k:Nat))=true:=by simp
   simp only [iq,aj,h0,bG,ta,nY,ki,mQ,aJ,mc,N5,show (rN:List UInt8).length=1 from rfl,jH]
   refine ⟨⟨by omega,by omega,by omega⟩,bK (by omega) (by omega),⟨by omega,by omega,by omega⟩,?_⟩
   rw [h3] at hR
   refine al.eq hR ?_
   have e1:((k:Int)+((1:Nat):Int)).toNat=k+1:=by omega
   simp [e1]
theorem X9 {U:St} {R:cY->St->Prop} {b n:Nat} {c:mg} {l:List Tk} {t:Tk} {a:AV} (hb:U.box b=some [.vec n c (jI (l++[t]))]) (hn:n=l.length+1) (hl:l.length <= 900) (h:R (.ret (.int .i64 t.s.length)) U):ae K 75 [a,.box b 0] U R:=by
 refine Vy ?_
 subst hn
 unfold Xw
 simp only [gM hb,List.drop,bC,ua,aj,Hf]
 refine ⟨bK (by omega) (by omega),?_⟩
 rw [Cz]
 refine ⟨by omega,?_⟩
 have e:(((l.length+1:Nat):Int) - 1).toNat=l.length:=by omega
 rw [e]
 obtain ⟨r,hr⟩:=EP (L:=l++[t]) (i:=l.length) (t:=t) (by simp)
 rw [hr]
 simp only [dJ,aj,qh,gE,List.drop,oH,bC,mc]
 exact al.mk h
def sF (l:List Tk):AV:=if l=[] then .aq else .vec l.length .jc (jI l)
theorem BK (l l':List Tk):jI (l++l')=jI l++jI l':=by simp [jI]
structure TI (U:St) (b1 b2 b3 b4 b7 bs bd:Nat) (s:aG) (l:List Tk):Prop where
 h1:U.box b1=some [.str s]
 h2:∃ x,U.box b2=some [x]
 h3:∃ x,U.box b3=some [x]
 h4:∃ x,U.box b4=some [x]
 h7:∃ v,U.box b7=some [v]/\Grow U v 51 3 l.length (jI l)/\(l=[]->v=.aq)
 hs:U.box bs=some [.str s]
 hd:U.box bd=some [.func (.func 75) [] [.box b7 0]]
theorem gq {U ad:St} {b:Nat} (h:ad.live b=U.live b):ad.loop b=U.loop b:=by simp [St.loop,h]
theorem fT {U:St} {b:Nat} {L:fL}:(U.set b (.loop L)).loop b=some L:=by simp [St.loop,dQ]
theorem vX {U:St} {b:Nat} {L:fL}:(U.new b (.loop L)).loop b=some L:=by simp [St.loop,mM]
theorem bP {U:St} {b b':Nat} {l:List AV} {L:fL} (h:U.box b=some l) (k:U.loop b'=some L):b ≠ b':=by
 rintro rfl
 unfold St.box at h; unfold St.loop at k
 split at k
 . rename_i e; simp [e] at h
 . cases k
theorem sM {U:St} {b b':Nat} {l:Tok} {L:fL} (h:U.tok b=some l) (k:U.loop b'=some L):b ≠ b':=by
 rintro rfl
 unfold St.tok at h; unfold St.loop at k
 split at k
 . rename_i e; simp [e] at h
 . cases k
theorem TI.sA {U:St} {b1 b2 b3 b4 b7 bs bd o:Nat} {s:aG} {l:List Tk} (T:TI U b1 b2 b3 b4 b7 bs bd s l) {L L':fL} (hL:U.loop o=some L):TI (U.set o (.loop L')) b1 b2 b3 b4 b7 bs bd s l:=by
 have k:∀ {b:Nat} {x:List AV},U.box b=some x->(U.set o (.loop L')).box b=some x:=fun h=>by rw [aY (bP h hL)]; exact h
 obtain ⟨v,g1,g2,g3⟩:=T.h7
 refine ⟨k T.h1,T.h2.imp fun _ h=>k h,T.h3.imp fun _ h=>k h,T.h4.imp fun _ h=>k h,⟨v,k g1,?_,g3⟩,k T.hs,k T.hd⟩
 rcases g2 with g2 | ⟨τ,e,ht,hl⟩
 . exact .inl g2
 . exact .inr ⟨τ,e,by rw [gY (sM ht hL)]; exact ht,hl⟩
theorem TI.HM {U ad:St} {b1 b2 b3 b4 b7 bs bd:Nat} {s:aG} {l:List Tk} (T:TI U b1 b2 b3 b4 b7 bs bd s l) (e:dm U ad):TI ad b1 b2 b3 b4 b7 bs bd s l:=by
 obtain ⟨v,g1,g2,g3⟩:=T.h7
 refine ⟨e.bg T.h1,T.h2.imp fun _ h=>e.bg h,T.h3.imp fun _ h=>e.bg h,T.h4.imp fun _ h=>e.bg h,⟨v,e.bg g1,?_,g3⟩,e.bg T.hs,e.bg T.hd⟩
 rcases g2 with g2 | ⟨τ,e1,ht,hl⟩
 . exact .inl g2
 . exact .inr ⟨τ,e1,e.tok ht,hl⟩
theorem Pure.of' {f:Nat} {args:List AV} {x:AV} (hargs:cT args=true) (hx:closed x=true)
 (h:∀ R:cY->St->Prop,(∀ v ad,resolve 5 ad v=x->R (.ret v) ad)->ae K f args (bV ⟨.e,0⟩) R):Pure K f args x :=
 Pure.AN Be hargs hx 5 (h _ fun v ad e=>⟨v,rfl,e⟩)
theorem KL (n:Nat) (U:St) (l:List Tk):(jI l).map (resolve (n+1) U)=jI l:=by
 induction l with
 | nil=>rfl
 | cons t l ih =>
   show ((qh t++jI l).map (resolve (n+1) U))=qh t++jI l
   rw [List.map_append,ih]; rfl
theorem MK (l:List Tk):cT (jI l)=true:=by
 induction l with
 | nil=>rfl
 | cons t l ih=>show cT (qh t++jI l)=true; simp [qh,cT,closed,ih]
theorem Kb (l:List Tk):closed (sF l)=true:=by
 unfold sF; split
 . rfl
 . exact MK l
theorem Jw {U ad:St} {v:AV} {l:List Tk} (n:Nat) (h:Grow U v 51 3 l.length (jI l)) (h0:l=[]->v=.aq):resolve (n+2) ad v=sF l:=by
 unfold sF
 split
 . rename_i e; rw [h0 e]; rfl
 . rename_i e
   rcases h with ⟨h1,_,_⟩ | ⟨τ,rfl,_,_⟩
   . exact absurd (sw.1 h1) e
   . show AV.vec l.length .jc ((jI l).map (resolve (n+1) ad))=_
     rw [KL]
def uO:xv->AV
 | .ok l=>.aH [sF l,.int .i64 0,.int .i64 0]
 | .bad p e=>.aH [.aq,.int .i64 p,.int .i64 e]
theorem dm.loop {U ad:St} {b:Nat} {L:fL} (h:dm U ad) (k:U.loop b=some L):ad.loop b=some L:=by
 cases e:U.live b with
 | none=>simp [St.loop,e] at k
 | some x=>rw [gq ((h b x e).trans e.symm)]; exact k
theorem nT {U ad:St} {v:AV} {e sz n:Nat} {l:List AV} (g:Grow U v e sz n l) (e1:∀ b x,(∀ n l,v ≠ .vec n (.own b) l)->U.live b=some x->ad.live b=some x) :
 (∀ {b:Nat} {x:List AV},U.box b=some x->ad.box b=some x)/\(∀ {b:Nat} {L:fL},U.loop b=some L->ad.loop b=some L):=by
 refine ⟨fun {b x} h=>?_,fun {b L} h=>?_⟩
 . cases e:U.live b with
   | none=>exact absurd e (cD h)
   | some y =>
     have:=e1 b y (fun n' l' hv=>by
      rcases g with ⟨_,_,g⟩ | ⟨τ,g,ht,_⟩
      . rw [g] at hv; cases hv
      . rw [g] at hv; cases hv; exact eZ h ht rfl) e
     rw [dD (this.trans e.symm)]; exact h
 . cases e:U.live b with
   | none=>simp [St.loop,e] at h
   | some y =>
     have:=e1 b y (fun n' l' hv=>by
      rcases g with ⟨_,_,g⟩ | ⟨τ,g,ht,_⟩
      . rw [g] at hv; cases hv
      . rw [g] at hv; cases hv; exact sM ht h rfl) e
     rw [gq (this.trans e.symm)]; exact h
theorem st3 {U:St} {b2 b3 b4:Nat} {lv:AV} {p e:Int} {K':AV->St->Prop} {Kp:AV->St->Prop} (h2:∃ x,U.box b2=some [x]) (h3:∃ x,U.box b3=some [x]) (h4:∃ x,U.box b4=some [x]) (LU:b2 ≠ b3) (F5:b2 ≠ b4) (Jc:b3 ≠ b4) (hl:lv.dh=true/\ax lv=[lv])
 (h:∀ jK,jK.box b2=some [lv]->jK.box b3=some [.int .i64 p]->jK.box b4=some [.int .i64 e]->(∀ b,b ≠ b2->b ≠ b3->b ≠ b4->jK.live b=U.live b)->K' (.aH []) jK) :
 (aI (some (false,1)) (.box b2 0) lv U).wp K U (fun _ U=>(aI (some (false,1)) (.box b3 0) (.int .i64 p) U).wp K U (fun _ U=>(aI (some (false,1)) (.box b4 0) (.int .i64 e) U).wp K U K' Kp) Kp) Kp:=by
 obtain ⟨x2,h2⟩:=h2
 obtain ⟨x3,h3⟩:=h3
 obtain ⟨x4,h4⟩:=h4
 rw [dk h2]
 refine ⟨⟨hl.1,by rw [hl.2]; rfl,by simp⟩,?_⟩
 rw [dk (show (U.set b2 _).box b3=some [x3] by rw [aY LU.symm]; exact h3)]
 refine ⟨⟨rfl,rfl,by simp⟩,?_⟩
 rw [dk (show ((U.set b2 _).set b3 _).box b4=some [x4] by rw [aY Jc.symm,aY F5.symm]; exact h4)]
 refine ⟨⟨rfl,rfl,by simp⟩,h _ ?_ ?_ ?_ fun b m2 m3 m4=>?_⟩
 . rw [aY F5,aY LU,a7,hl.2]; rfl
 . rw [aY Jc,a7]; rfl
 . rw [a7]; rfl
 . rw [dQ,if_neg m4,dQ,if_neg m3,dQ,if_neg m2]
theorem BL (s:aG) (hs:s.length <= 3000):Pure K 33 [.str s] (uO (iM s)):=by
 refine Pure.of' rfl (by cases iM s with | ok l=>simp [uO,closed,cT,Kb] | bad p e=>rfl) fun R hR=>?_
 refine Vo ?_
 unfold Xm
 rw [hU rfl]
 intro b1 jM
 rw [cZ]
 intro b2 iW
 rw [cZ]
 intro b3 lu
 rw [cZ]
 intro b4 iw
 have n12:b1 ≠ b2:=iW.bX aK
 have g1:=aK (U:=bV ⟨.e,0⟩) (b:=b1) (l:=ax (.str s))
 generalize UG:(bV _).new b1 _=aR at *
 have g1':=(bB iW (x:=.box [.aq])).bg g1
 have g2:=aK (U:=aR) (b:=b2) (l:=[.aq])
 generalize UH:aR.new b2 _=bh at *
 have aa3:=(bB lu (x:=.box [.int .i64 0])).bg g1'
 have g2':=(bB lu (x:=.box [.int .i64 0])).bg g2
 have g3:=aK (U:=bh) (b:=b3) (l:=[.int .i64 0])
 have LU:b2 ≠ b3:=lu.bX g2
 generalize afL:bh.new b3 _=bW at *
 have k1:=(bB iw (x:=.box [.int .i64 0])).bg aa3
 have k2:=(bB iw (x:=.box [.int .i64 0])).bg g2'
 have k3:=(bB iw (x:=.box [.int .i64 0])).bg g3
 have k4:=aK (U:=bW) (b:=b4) (l:=[.int .i64 0])
 have F5:b2 ≠ b4:=iw.bX g2'
 have Jc:b3 ≠ b4:=iw.bX g3
 generalize II:bW.new b4 _=cN at *
 clear UG UH afL II g1 g1' aa3 g2 g2' g3 jM iW lu iw
 replace k1:cN.box b1=some [.str s]:=k1
 have fin:∀ (ad:St) (lv:AV) (p e:Int),ad.box b2=some [lv]->ad.box b3=some [.int .i64 p]->ad.box b4=some [.int .i64 e]->(∀ jK,resolve 5 jK (.aH [lv,.int .i64 p,.int .i64 e])=uO (iM s)) ->
  bF (some (false,1)) (.box b2 0) ad fun r0=>bF (some (false,1)) (.box b3 0) ad fun r1=>bF (some (false,1)) (.box b4 0) ad fun r2=>al R (.aH [r0,r1,r2]) ad:=by
  intro ad lv p e m2 m3 m4 hres
  rw [yo m2 (eD),yo m3 (eD),yo m4 (eD)]
  exact al.mk (hR _ _ (hres _))
 simp only [gM k1,Ff,List.drop,bC]
 refine (TP s).go ?_
 simp only [bD,List.drop,bC,dS,aj]
 have kI:iM s=if (sb s).2 ≠ 0 then .bad (sb s).1 (sb s).2 else eT s.length s 0 []:=rfl
 by_cases he:(sb s).2=0
 . simp only [he,dZ,du,bp]
   rw [if_neg (by simp [he])] at kI
   rw [cZ]
   intro b7 mU
   have n71:=(mU.bX k1).symm
   have n72:=(mU.bX k2).symm
   have n73:=(mU.bX k3).symm
   have n74:=(mU.bX k4).symm
   have e5:=bB mU (x:=.box [.aq])
   have m7:=aK (U:=cN) (b:=b7) (l:=[.aq])
   generalize afM:cN.new b7 _=dv at *
   rw [gM (e5.bg k1),eD,bC]
   refine Vz ?_
   unfold Xx
   rw [hU rfl]
   intro bs Pw
   have n7s:=Pw.bX m7
   have e6:=bB Pw (x:=.box (ax (.str s)))
   have ms:=aK (U:=dv) (b:=bs) (l:=ax (.str s))
   generalize afN:dv.new bs _=nQ at *
   rw [hU rfl]
   intro bd hbd
   have n7d:=hbd.bX (e6.bg m7)
   have e7:=bB hbd (x:=.box (ax (.func (.func 75) [] [.box b7 0])))
   have md:=aK (U:=nQ) (b:=bd) (l:=ax (.func (.func 75) [] [.box b7 0]))
   generalize afO:nQ.new bd _=jy at *
   refine al.mk ?_
   refine ⟨by kernel_rfl,fun o L ho H4 Ps Y=>?_⟩
   have O3:=e5.trans (e6.trans e7)
   have T7:TI jy b1 b2 b3 b4 b7 bs bd s []:=⟨O3.bg k1,⟨_,O3.bg k2⟩,⟨_,O3.bg k3⟩,⟨_,O3.bg k4⟩,⟨_,(e6.trans e7).bg m7,.inl ⟨rfl,rfl,rfl⟩,fun _=>rfl⟩,e7.bg ms,md⟩
   have T8:=T7.HM (bB ho (x:=.loop L))
   have L8:=vX (U:=jy) (b:=o) (L:=L)
   generalize afP:jy.new o _=vK at *
   clear afM afN afO afP T7 O3 e5 e6 e7 m7 ms md ho hbd Pw mU k1 k2 k3 k4
   refine RF ?_
   unfold RE
   refine ⟨fun m v0 v1 v2 v4 ad=>∃ f p l,m=s.length - p/\v0=.rZ o/\v1=.box bs 0/\v2=.box bd 0/\v4=.int .i64 (p:Nat)/\p <= s.length/\s.length - p <= f/\l.length <= 900/\eT f s p l=iM s/\TI ad b1 b2 b3 b4 b7 bs bd s l/\∃ L1,ad.loop o=some L1/\L1.st .ready none=L/\L1.state=.ready/\L1.gh=none,
    ⟨_,s.length,0,[],rfl,rfl,rfl,rfl,rfl,by omega,by omega,by simp,kI.symm,T8,L,L8,by cases L; simp_all [fL.st],H4,Ps⟩,?_⟩
   clear T8 L8 kI he
   rintro m v0 v1 v2 v4 te ⟨f,p,l,rfl,rfl,rfl,rfl,rfl,hp,hf,Il,kI,T,L1,jB,fV,Br,Bq⟩
   rw [gM T.hs,eD,bC]
   simp only [mc,aj,cq,ca]
   refine ⟨fun aQ=>?_,fun lI=>?_⟩
   . have aQ:p < s.length:=by omega
     have CY:s.drop p=s[p]::s.drop (p+1):=ib aQ
     cases f with
     | zero=>omega
     | succ f =>
     simp only [eT] at kI
     rw [CY] at kI
     simp only at kI
     rw [gM T.hs,eD,bC,yE]
     refine ⟨by omega,?_⟩
     rw [jH,getD_at aQ]
     intro jj Bm
     have c32:((s[p].toNat:Int)=32)=(s[p].toNat=32):=by simp; omega
     have c10:((s[p].toNat:Int)=10)=(s[p].toNat=10):=by simp; omega
     have ae3:((s[p].toNat:Int)=126)=(s[p].toNat=126):=by simp; omega
     have blank:s[p].toNat=32\/s[p].toNat=10->jj (.rZ o) (.box bs 0) (.box bd 0) (.int .i64 (p:Nat)) (.int .u8 s[p].toNat) (.bool true) te:=fun h=>by
      refine Bm _ _ _ _ _ _ _ ?_
      rw [if_pos h] at kI
      simp only [bG,dO]
      exact ⟨bK (by omega) (by omega),_,by omega,f,p+1,l,rfl,rfl,rfl,rfl,by simp,by omega,by omega,Il,kI,T,L1,jB,fV,Br,Bq⟩
     have other:¬ (s[p].toNat=32\/s[p].toNat=10)->jj (.rZ o) (.box bs 0) (.box bd 0) (.int .i64 (p:Nat)) (.int .u8 s[p].toNat) (.bool false) te:=fun h=>by
      refine Bm _ _ _ _ _ _ _ ?_
      rw [if_neg h] at kI
      simp only [bp,bu,aj,ca,ae3]
      have after:∀ {jK:St} {L2:fL},L2={ L1 with state:=.ready,gh:=none }->L2.st .ready none=L/\L2.state=.ready/\L2.gh=none:=fun h=>by
       subst h; exact ⟨by rw [<- fV]; rfl,rfl,rfl⟩
      refine ⟨fun zq=>?_,fun zq=>?_⟩
      . rw [if_pos zq] at kI
        rw [gM T.hs,eD,bC]
        have hdn:((s.take s.length).drop p)=s[p]::s.drop (p+1):=by rw [tq,CY]
        simp only [ta,nY,ki,wp_cond,aj,jH,hdn]
        refine ⟨⟨by omega,by omega,by omega⟩,?_⟩
        obtain ⟨y,z,aff⟩:=TQ (s[p]::s.drop (p+1)) (by rw [<- CY]; simp; omega)
        refine aff.go ?_
        have hlen:((s[p]::s.drop (p+1)).takeWhile fun c=>c.toNat ≠ 10).length <= s.length - p:=by
         rw [<- CY]; exact Nat.le_trans (wb _).length_le (by simp)
        have cr:1 <= ((s[p]::s.drop (p+1)).takeWhile fun c=>c.toNat ≠ 10).length/\((s[p]::s.drop (p+1)).takeWhile fun c=>c.toNat ≠ 10) ≠ []:=by
         rw [l9]; simp [zq]
        generalize ((s[p]::s.drop (p+1)).takeWhile fun c=>c.toNat ≠ 10)=nt at *
        simp only [bD,List.drop,bC]
        simp only [jk,yH]
        refine Y _ _ _ L1 rfl jB fV ?_
        refine ⟨L1,jB,Br,?_⟩
        have hnn:¬ nt=w_:=cr.2
        simp only [vP,aj,hnn,eX,fD,bG]
        refine ⟨_,fT,?_⟩
        simp only [bE,eI,aj,du,bp,mc,dO]
        refine ⟨bK (by omega) (by omega),_,?_,f,p+nt.length,l,rfl,rfl,rfl,rfl,by simp,by omega,by omega,Il,kI,(T.sA jB).sA fT,_,fT,?_⟩
        . omega
        . exact ⟨by rw [<- fV]; rfl,rfl,rfl⟩
      . rw [if_neg zq] at kI
        simp only [jk,yH]
        refine Y _ _ _ L1 rfl jB fV ?_
        refine ⟨L1,jB,Br,?_⟩
        have T2:=T.sA (L':={ L1 with state:=.busy }) jB
        have L2:(te.set o (.loop { L1 with state:=.busy })).loop o=some { L1 with state:=.busy }:=fT
        generalize ad4:te.set o (.loop { L1 with state:=.busy })=yJ at *
        simp only [vP,aj,dZ,du,bp]
        rw [gM T2.h1,eD,bC]
        have hdn:((s.take s.length).drop p)=s[p]::s.drop (p+1):=by rw [tq,CY]
        simp only [ta,nY,ki,wp_cond,aj,jH,hdn]
        refine ⟨⟨by omega,by omega,by omega⟩,?_⟩
        refine (CO (s[p]::s.drop (p+1)) (by rw [<- CY]; simp; omega)).go ?_
        cases pN:ic (s[p]::s.drop (p+1)) with
        | mk e kt =>
        obtain ⟨k,tx⟩:=kt
        rw [pN] at kI
        simp only at kI
        simp only [JS,bD,List.drop,bC]
        rw [cZ]
        intro kz vU
        have g11:(yJ.new kz (.box [AV.int .u8 0,AV.str [],AV.int .i64 0])).box kz=some [AV.int .u8 0,AV.str [],AV.int .i64 0]:=aK
        rw [dk g11]
        refine ⟨⟨rfl,rfl,by simp⟩,?_⟩
        have Zl:=((dm.refl yJ).new vU (x:=.box [AV.int .u8 0,AV.str [],AV.int .i64 0])).set (x:=.box (aA [AV.int .u8 0,AV.str [],AV.int .i64 0] 0 (ax (.agg [.int .u8 (k:Nat),.str tx,.int .i64 0])))) vU.1
        have m11:((yJ.new kz (.box [AV.int .u8 0,AV.str [],AV.int .i64 0])).set kz (.box (aA [AV.int .u8 0,AV.str [],AV.int .i64 0] 0 (ax (.agg [.int .u8 (k:Nat),.str tx,.int .i64 0]))))).box kz=some [.int .u8 (k:Nat),.str tx,.int .i64 0]:=by rw [a7]; rfl
        have n117:b7 ≠ kz:=vU.bX (T2.h7.choose_spec.1)
        generalize (yJ.new kz (.box [AV.int .u8 0,AV.str [],AV.int .i64 0])).set kz (.box (aA [AV.int .u8 0,AV.str [],AV.int .i64 0] 0 (ax (.agg [.int .u8 (k:Nat),.str tx,.int .i64 0]))))=yK at *
        have T3:=T2.HM Zl
        have L3:=Zl.loop L2
        have adH:∀ (b:Nat) (x:List AV),yJ.box b=some x->b ≠ kz:=fun b x h=>vU.bX h
        clear Zl g11 vU ad4
        intro j hj
        obtain ⟨v,q1,q2,q3⟩:=T3.h7
        have cont:∀ e':Int,(e' ≠ 0->iM s=.bad p e')->(e'=0->l.length < 900/\0 < tx.length/\eT f s (p+tx.length) (l++[⟨k,tx,p⟩])=iM s)->(e'=0->e=0)->j (.box b2 0) (.box b3 0) (.box b4 0) (.box b7 0) (.int .i64 (p:Nat)) (.box kz 0) (.int .i64 e') yK:=by
         intro e' afe adR abl
         refine hj _ _ _ _ _ _ _ _ ?_
         by_cases mV:e'=0
         . obtain ⟨ag1,qR,hlx⟩:=adR mV
           simp only [mV,dS,aj,dZ,du,bp,aZ,df]
           rw [dk m11]
           refine ⟨⟨rfl,rfl,by simp⟩,?_⟩
           have kp:∀ {b:Nat} {x:List AV},b ≠ kz->yK.box b=some x->(yK.set kz (.box (aA [.int .u8 (k:Nat),.str tx,.int .i64 0] 2 (ax (.int .i64 (p:Nat)))))).box b=some x:=fun h1 h2=>by rw [aY h1]; exact h2
           rw [gM (kp n117 q1),eD,bC]
           rw [pc a7]
           refine ⟨by simp [aA],?_⟩
           have q2':Grow (yK.set kz (.box (aA [.int .u8 (k:Nat),.str tx,.int .i64 0] 2 (ax (.int .i64 (p:Nat)))))) v 51 3 l.length (jI l):=by
            rcases q2 with q2 | ⟨τ,r1,r2,r3⟩
            . exact .inl q2
            . exact .inr ⟨τ,r1,by rw [gY (eZ m11 r2).symm]; exact r2,r3⟩
           have zi:∀ {b:Nat} {x:List AV},yK.box b=some x->b ≠ kz->(yK.set kz (.box (aA [.int .u8 (k:Nat),.str tx,.int .i64 0] 2 (ax (.int .i64 (p:Nat)))))).box b=some x:=fun h1 h2=>kp h2 h1
           have l11:(yK.set kz (.box (aA [.int .u8 (k:Nat),.str tx,.int .i64 0] 2 (ax (.int .i64 (p:Nat)))))).loop o=some { L1 with state:=.busy }:=by
            rw [gq]; exact L3
            rw [dQ,if_neg (bP m11 L3).symm]
           have H5:(List.take 3 (List.drop 0 (aA [.int .u8 (k:Nat),.str tx,.int .i64 0] 2 (ax (.int .i64 (p:Nat))))))=qh ⟨k,tx,p⟩:=by simp [aA,qh]
           rw [H5]
           generalize yK.set kz (.box (aA [.int .u8 (k:Nat),.str tx,.int .i64 0] 2 (ax (.int .i64 (p:Nat)))))=ag7 at *
           rw [gG]
           refine ⟨by omega,?_⟩
           rw [eJ (o:=0) (s:=3) rfl]
           refine ⟨⟨rfl,rfl,by simp [bO]⟩,?_⟩
           rw [ik]
           refine ⟨rfl,?_⟩
           have Xb:=zi q1 n117
           refine DY (m:=1) (l2:=qh ⟨k,tx,p⟩) q2' rfl rfl (by omega) (by omega) (fun h=>q3 (sw.1 h)) fun EX v' g1 g2 g3=>?_
           obtain ⟨kb,kl⟩:=nT q2' g2
           have C7:v'.dh=true/\ax v'=[v']:=by
            rcases g1 with ⟨_,_,rfl⟩ | ⟨τ,rfl,_,_⟩ <;> exact ⟨rfl,rfl⟩
           rw [dk (kb Xb)]
           refine ⟨⟨C7.1,by rw [C7.2]; rfl,by simp⟩,?_⟩
           have kk:∀ {b:Nat} {x:List AV},b7 ≠ b->EX.box b=some x->(EX.set b7 (.box (aA [v] 0 (ax v')))).box b=some x:=fun h1 h2=>by rw [aY h1.symm]; exact h2
           have lo:(EX.set b7 (.box (aA [v] 0 (ax v')))).loop o=some { L1 with state:=.busy }:=by
            rw [gq]; exact kl l11
            rw [dQ,if_neg (bP (kb Xb) (kl l11)).symm]
           have Ea:∀ {b:Nat} {x:List AV},yJ.box b=some x->b ≠ kz:=fun h=>adH _ _ h
           have T5:TI (EX.set b7 (.box (aA [v] 0 (ax v')))) b1 b2 b3 b4 b7 bs bd s (l++[⟨k,tx,p⟩]):=by
            refine ⟨kk n71 (kb (zi T3.h1 (Ea T2.h1))),?_,?_,?_,⟨v',by rw [a7,C7.2]; rfl,?_,fun h=>by simp at h⟩,kk n7s (kb (zi T3.hs (Ea T2.hs))),kk n7d (kb (zi T3.hd (Ea T2.hd)))⟩
            . obtain ⟨x,hx⟩:=T2.h2; obtain ⟨y,hy⟩:=T3.h2; exact ⟨y,kk n72 (kb (zi hy (Ea hx)))⟩
            . obtain ⟨x,hx⟩:=T2.h3; obtain ⟨y,hy⟩:=T3.h3; exact ⟨y,kk n73 (kb (zi hy (Ea hx)))⟩
            . obtain ⟨x,hx⟩:=T2.h4; obtain ⟨y,hy⟩:=T3.h4; exact ⟨y,kk n74 (kb (zi hy (Ea hx)))⟩
            . have el:(l++[(⟨k,tx,p⟩:Tk)]).length=l.length+1:=by simp
              rw [el,BK]
              rcases g1 with ⟨h0,_⟩ | ⟨τ,r1,r2,r3⟩
              . omega
              . exact .inr ⟨τ,r1,by rw [gY (eZ (kb Xb) r2).symm]; exact r2,r3⟩
           have xM:∃ c,v'=.vec (l.length+1) c (jI (l++[⟨k,tx,p⟩])):=by
            rw [BK]
            rcases g1 with ⟨h0,_⟩ | ⟨τ,r1,_,_⟩
            . omega
            . exact ⟨_,r1⟩
           have h7':(EX.set b7 (.box (aA [v] 0 (ax v')))).box b7=some [v']:=by rw [a7,C7.2]; rfl
           generalize EX.set b7 (.box (aA [v] 0 (ax v')))=agB at *
           refine ⟨_,lo,?_⟩
           have T6:=T5.sA (L':={ L1 with state:=.ready,gh:=none }) lo
           obtain ⟨c,hc⟩:=xM
           subst hc
           have afc:(agB.set o (.loop { L1 with state:=.ready,gh:=none })).box b7=some [.vec (l.length+1) c (jI (l++[⟨k,tx,p⟩]))]:=by rw [aY (bP h7' lo)]; exact h7'
           simp only [bE,eI,aj,du,bp]
           rw [gM T6.hd,eD,bC]
           simp only [show fw K.P 75=true by kernel_rfl,if_true,lR,jY,gE]
           refine X9 afc rfl Il ?_
           simp only [bE,dO]
           have nx:p+tx.length <= s.length:=by
            have:=(AX (s:=s[p]::s.drop (p+1)) (k:=k) (t:=tx) (by rw [pN,abl mV])).2.length_le
            rw [<- CY] at this
            simp at this
            omega
           refine ⟨bK (by omega) (by omega),_,?_,f,p+tx.length,l++[⟨k,tx,p⟩],rfl,rfl,rfl,rfl,by simp,nx,by omega,by simp; omega,hlx,T6,_,fT,by rw [<- fV]; rfl,rfl,rfl⟩
           omega
         . simp only [mV,dS,aj,eX,fD,bG]
           refine st3 T3.h2 T3.h3 T3.h4 LU F5 Jc ⟨rfl,rfl⟩ fun jK m2 m3 m4 mo=>?_
           have ob:∀ {b:Nat},(∃ x,yK.box b=some [x])->o ≠ b:=fun ⟨x,h⟩=>(bP h L3).symm
           have L4:jK.loop o=some { L1 with state:=.busy }:=by rw [gq (mo o (ob T3.h2) (ob T3.h3) (ob T3.h4))]; exact L3
           refine ⟨_,L4,?_⟩
           simp only [bE,eI,aj,fD,bG]
           refine al.mk ⟨_,fT,by simp,?_⟩
           have kp:∀ {b:Nat} {x:List AV},o ≠ b->jK.box b=some x->((jK.set o (.loop { L1 with state:=.done,gh:=some .ret })).del o).box b=some x:=fun h1 h2=>by rw [jr h1.symm,aY h1.symm]; exact h2
           refine fin _ _ _ _ (kp (ob T3.h2) m2) (kp (ob T3.h3) m3) (kp (ob T3.h4) m4) fun bW=>?_
           rw [afe mV]; rfl
        have hlen:cE (some false) v=.val (.int .i64 l.length):=by
         rcases q2 with ⟨h0,_,rfl⟩ | ⟨τ,rfl,_,_⟩
         . rw [h0]; rfl
         . rfl
        simp only [bu,aj,bj,aP]
        by_cases vb:e=0
        . subst vb
          simp only [dZ,iJ,cI,su q1,eD,jQ,mA,hlen,aJ,bu,aM,if_true,aj,ca]
          rw [if_neg (by simp)] at kI
          refine ⟨fun Ut=>?_,fun Ut=>?_⟩
          . rw [if_pos (by omega)] at kI
            exact cont 5 (fun _=>kI.symm) (fun h=>by omega) (fun h=>by omega)
          . rw [if_neg (by omega)] at kI
            have qR:=(AX pN).1.1
            exact cont 0 (fun h=>absurd rfl h) (fun _=>⟨by omega,List.length_pos_iff.2 qR,kI⟩) (fun _=>rfl)
        . simp only [vb,eX,show (false == true)=false from rfl,cC,aM,bQ,if_false,aj,bp]
          rw [if_pos vb] at kI
          exact cont e (fun _=>kI.symm) (fun h=>absurd h vb) (fun h=>h)
     simp only [bu,aj,ca,c32,c10]
     refine ⟨fun h=>?_,fun h=>?_⟩
     . simp only [h,dZ]; rw [h] at blank; exact blank (.inl rfl)
     . by_cases nw:s[p].toNat=10
       . simp only [nw,dZ]; rw [nw] at blank; exact blank (.inr rfl)
       . simp only [nw,eX]; exact other (fun h1=>h1.elim h nw)
   . have hd0:s.drop p=[]:=List.drop_eq_nil_of_le (by omega)
     have hlx:iM s=.ok l:=by
      rw [<- kI]
      cases f with
      | zero=>rfl
      | succ f=>simp only [eT]; rw [hd0]
     refine al.mk ⟨L1,jB,by rw [Br]; simp,?_⟩
     rw [Bq]
     obtain ⟨v,g1,g2,g3⟩:=T.h7
     have dl:∀ {b:Nat} {x:List AV},te.box b=some x->(te.del o).box b=some x:=fun h=>by rw [jr (bP h jB)]; exact h
     have hv:v.dh=true/\ax v=[v]:=by
      rcases g2 with ⟨_,_,rfl⟩ | ⟨τ,rfl,_,_⟩ <;> exact ⟨rfl,rfl⟩
     show (ak (some (false,1)) (.box b7 0) (te.del o)).wp K (te.del o) _ _
     rw [gM (dl g1),eD,bC]
     refine st3 (T.h2.imp fun _ h=>dl h) (T.h3.imp fun _ h=>dl h) (T.h4.imp fun _ h=>dl h) LU F5 Jc hv fun jK m2 m3 m4 _=>?_
     refine fin jK _ _ _ m2 m3 m4 fun bW=>?_
     rw [hlx]
     show AV.aH [resolve 4 bW v,.int .i64 0,.int .i64 0]=_
     rw [Jw 2 g2 g3]
     rfl
 . simp only [he,eX,fD,bG]
   rw [if_pos he] at kI
   refine st3 ⟨_,k2⟩ ⟨_,k3⟩ ⟨_,k4⟩ LU F5 Jc ⟨rfl,rfl⟩ fun dv m2 m3 m4 _=>?_
   exact fin dv _ _ _ m2 m3 m4 fun jK=>by rw [kI]; rfl
end Go.Rip
