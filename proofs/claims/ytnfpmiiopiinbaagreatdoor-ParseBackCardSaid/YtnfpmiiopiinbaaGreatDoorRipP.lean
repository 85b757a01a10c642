/- Lemmas for the proof: no conditions. -/
import Derived.Test.YtnfpmiiopiinbaaGreatDoorRipZz
import Derived.Test.YtnfpmiiopiinbaaGreatDoorRipN
import Derived.Test.YtnfpmiiopiinbaaGreatDoorRipE
import Derived.Test.YtnfpmiiopiinbaaGreatDoorRipF
set_option linter.unusedVariables false
set_option linter.unusedSimpArgs false
set_option linter.loopingSimpArgs false
namespace Go.Rip
open Go.Proofs Go.RowKit
def cls (c:Int):Int:=if c=32\/c=10 then 1 else if c < 32\/c > 126 then 0 else if 48 <= c/\c <= 57 then 2 else if 97 <= c/\c <= 122 then 3 else if 65 <= c/\c <= 90 then 4 else 5
theorem Hk (c:Int):Pure K 216 [.int .u8 c] (.int .i64 (cls c)):=by
 intro U R hR
 refine R1 ?_
 simp (contextual:=true) only [R0,Dp,BB,br,cb,mA,eY,il,al,bf,aN,rF,cx,cF,aJ,aM,mj,abB,bY,bE,bm,du,eB,ite_true,ite_false,beq_true,beq_false,c8,eQ,dS,if_true,if_false,true_and,and_true,not_true,not_false_iff]
 repeat' (first | refine And.intro ?_ ?_ | intro _)
 all_goals (refine ak.eq hR ?_; simp only [cls,AV.int.injEq,true_and])
 all_goals grind
def Ig (l:List Int) (s:Int):Int:=match l.findIdx? (·=s) with | some i=>i | none=>-1
theorem J1 (c:lg) (l:List Int) (s:Int) (hn:l.length <= 100000):Pure K 246 [.vec l.length c (l.map (.int .i64)),.int .i64 s] (.int .i64 (Ig l s)):=by
 intro U R hR
 refine Sq ?_
 simp only [So,tX,al]
 refine ⟨fun m v0 v1 v7 v8 ad=>∃ i:Nat,m=l.length - i/\i <= l.length/\v0=.vec l.length c (l.map (.int .i64))/\v1=.int .i64 s/\v7=.int .i64 l.length/\v8=.int .i64 i/\ad=U/\∀ j,j < i->l[j]? ≠ some s,⟨l.length,0,by simp [Fn.app]⟩,?_⟩
 intro m v0 v1 v7 v8 ad hI
 obtain ⟨i,rfl,hi,rfl,rfl,rfl,rfl,rfl,jt⟩:=hI
 simp only [cb,al,bY]
 refine ⟨fun aQ=>?_,fun kn=>?_⟩
 . have aQ:i < l.length:=by omega
   have hd:(l.map (AV.int .i64)).drop (i * 1)=.int .i64 l[i]::(l.map (AV.int .i64)).drop (i+1):=by
    rw [Nat.mul_one,gT (by simpa using aQ)]; simp
   simp only [yO,wp_cond,al,iZ,hd,u9,dF,br,bY]
   refine ⟨by omega,fun he=>?_,fun cn=>?_⟩
   . refine ak.eq hR ?_
     have:l.findIdx? (·=s)=some i:=by
      rw [IV]
      refine ⟨aQ,by simp [he],fun j hj=>?_⟩
      have:=jt j hj
      rw [pk (by omega)] at this
      simpa using this
     simp [Ig,this]
   . simp only [my,gL,wp_cond,al]
     refine ⟨bI (by omega) (by omega),?_⟩
     refine ⟨l.length - (i+1),by omega,i+1,rfl,by omega,rfl,rfl,rfl,by simp,rfl,fun j hj=>?_⟩
     rcases jL j i with h | h
     . exact jt j h
     . have:j=i:=by omega
       subst this
       rw [pk aQ]; simpa using fun h=>cn h.symm
 . refine ak.eq hR ?_
   have:l.findIdx? (·=s)=none:=by
    rw [List.findIdx?_eq_none_iff]
    intro x hx
    obtain ⟨j,hj,rfl⟩:=List.getElem_of_mem hx
    have:=jt j (by omega)
    rw [pk hj] at this
    simpa using this
   simp [Ig,this]
theorem JZ (l:List Int) (s:Int):decide (0 <= Ig l s)=decide (s ∈ l):=by
 unfold Ig
 split
 . rename_i j hj
   obtain ⟨h1,h2,_⟩:=IV.1 hj
   have:s ∈ l:=by have:=of_decide_eq_true h2; exact this ▸ List.getElem_mem h1
   simp [this]
 . rename_i hj
   rw [List.findIdx?_eq_none_iff] at hj
   have:s ∉ l:=fun hm=>by simpa using hj s hm
   simp [this]
theorem xJ (c:Int) (cp:lg) (l:List Int) (hn:l.length <= 100000):Pure K 151 [.int .u8 c,.vec l.length cp (l.map (.int .i64))] (.bool (decide (cls c ∈ l))):=by
 intro U R hR
 refine Q7 ?_
 refine (Hk c).go ?_
 refine RZ ?_
 refine (J1 cp l (cls c) hn).go ?_
 simp only [il,al,JZ]
 exact ak.mk (ak.mk hR)
theorem Fu (c:UInt8):decide (cls c.toNat ∈ [2])=gJ c:=by
 unfold cls gJ
 rw [pU]
 simp only [jz,dS]
 grind
theorem Pp (c:UInt8):decide (cls c.toNat ∈ [3])=lI c:=by
 unfold cls lI
 rw [pU]
 simp only [jz,dS]
 grind
theorem Pm (c:UInt8):decide (cls c.toNat ∈ [2,3,4])=dm c:=by
 unfold cls dm gJ lI GG
 rw [pU]
 simp only [cD,List.not_mem_nil,or_false,dS,jM]
 grind
theorem Po (c:UInt8):(!decide (cls c.toNat ∈ [0]))=lH c:=by
 unfold cls lH
 rw [pU]
 simp only [jz,dS,Bool.not_eq_true',decide_eq_false_iff_not]
 grind
theorem J2 (c:UInt8):Pure K 146 [.int .u8 c.toNat] (.bool (lH c)):=by
 intro U R hR
 refine QZ ?_
 unfold QY
 rw [gp]
 refine ⟨by omega,?_⟩
 rw [eG (o:=0) (s:=1) rfl]
 refine ⟨⟨rfl,rfl,by simp [bN]⟩,?_⟩
 rw [ig]
 refine ⟨rfl,?_⟩
 refine (xJ c.toNat .full [0] (by simp)).go ?_
 simp only [ey,al,Po]
 exact ak.mk hR
theorem getD_at {s:aK} {i:Nat} (h:i < s.length):s.getD i 0=s[i]:=by simp [pT,h]
theorem Tj (s:aK):Pure K 74 [.str s] (.aH [.int .i64 (te s).1,.int .i64 (te s).2]):=by
 intro U R hR
 refine U7 ?_
 unfold W8
 simp only [oE,al,eY,bY]
 unfold te at hR
 refine ⟨fun h=>?_,fun h=>?_⟩
 . rw [if_pos (by omega)] at hR
   exact ak.mk hR
 . rw [if_neg (by omega)] at hR
   refine ⟨fun m v0 v9 v10 ad=>∃ i:Nat,m=s.length - i/\i <= s.length/\v0=.str s/\v9=.int .i64 s.length/\v10=.int .i64 i/\ad=U/\∀ j (hj:j < s.length),j < i->lH s[j]=true,⟨s.length,0,by simp [Fn.app]⟩,?_⟩
   rintro m v0 v9 v10 ad ⟨i,rfl,hi,rfl,rfl,rfl,rfl,cm⟩
   simp only [cb,al,bY]
   refine ⟨fun aQ=>?_,fun kn=>?_⟩
   . have aQ:i < s.length:=by omega
     rw [AU]
     refine ⟨by omega,?_⟩
     rw [iZ,getD_at aQ]
     refine (J2 s[i]).go ?_
     simp only [ey,al]
     cases hb:lH s[i] with
     | false =>
       simp only [eQ,bE]
       have:s.findIdx? (fun c=>!lH c)=some i:=by
        rw [IV]
        exact ⟨aQ,by simp [hb],fun j hj=>by simp [cm j (by omega) hj]⟩
       rw [this] at hR
       exact ak.mk hR
     | true =>
       simp only [c8,bm,dN]
       refine ⟨bI (by omega) (by omega),s.length - (i+1),by omega,i+1,rfl,by omega,rfl,rfl,by simp,rfl,fun j hj wE=>?_⟩
       rcases jL j i with h | h
       . exact cm j hj h
       . have:j=i:=by omega
         subst this; exact hb
   . have:s.findIdx? (fun c=>!lH c)=none:=by
      rw [List.findIdx?_eq_none_iff]
      intro x hx
      obtain ⟨j,hj,rfl⟩:=List.getElem_of_mem hx
      simp [cm j hj (by omega)]
     rw [this] at hR
     exact ak.mk hR
theorem yR {p:UInt8->Bool}:∀ {l:aK},(∀ x ∈ l,p x=true)->l.takeWhile p=l
 | [],_=>rfl
 | c::l,h=>by rw [oN,h c (by simp)]; simp [yR (l:=l) fun x hx=>h x (by simp [hx])]
theorem run_pure (s:aK) (hs:s.length <= 100000):Pure K 149 [.str s] (.int .i64 (s.takeWhile dm).length):=by
 intro U R hR
 refine Q4 ?_
 unfold Q3
 refine ⟨fun m v0 v2 ad=>∃ i:Nat,m=s.length - i/\i <= s.length/\v0=.str s/\v2=.int .i64 i/\ad=U/\∀ j (hj:j < s.length),j < i->dm s[j]=true,⟨s.length,0,by simp [Fn.app]⟩,?_⟩
 rintro m v0 v2 ad ⟨i,rfl,hi,rfl,rfl,rfl,cm⟩
 have si:(s.take i).takeWhile dm=s.take i:=by
  refine yR fun x hx=>?_
  obtain ⟨j,hj,rfl⟩:=List.getElem_of_mem hx
  simp only [List.length_take] at hj
  rw [List.getElem_take]
  exact cm j (by omega) (by omega)
 have K4:s.takeWhile dm=s.take i++(s.drop i).takeWhile dm:=by
  conv=>lhs; rw [<- List.take_append_drop i s]
  rw [List.takeWhile_append,si]
  simp
 simp only [oE,al,cb,bf,aN]
 by_cases aQ:i < s.length
 . have th:(i:Int) < s.length:=by omega
   simp only [th,du,gR,cx,aJ,GN,mj,iZ,getD_at aQ]
   refine ⟨by simp,?_⟩
   rw [ya]
   refine ⟨by omega,?_⟩
   rw [uB (o:=0) (s:=1) rfl]
   refine ⟨⟨rfl,rfl,by simp [bN]⟩,?_⟩
   rw [uB (o:=1) (s:=1) rfl]
   refine ⟨⟨rfl,rfl,by simp [bN,ay]⟩,?_⟩
   rw [uB (o:=2) (s:=1) rfl]
   refine ⟨⟨rfl,rfl,by simp [bN,ay]⟩,?_⟩
   rw [AI]
   refine ⟨rfl,_,xJ s[i].toNat .full [2,3,4] (by simp),?_⟩
   rw [Pm]
   simp only [aM,if_true,al]
   have hd:s.drop i=s[i]::s.drop (i+1):=gT aQ
   cases hb:dm s[i] with
   | true =>
     simp only [bE,dN]
     refine ⟨bI (by omega) (by omega),s.length - (i+1),by omega,i+1,rfl,by omega,rfl,by simp,rfl,fun j hj wE=>?_⟩
     rcases jL j i with h | h
     . exact cm j hj h
     . have:j=i:=by omega
       subst this; exact hb
   | false =>
     simp only [bm]
     refine ak.eq hR ?_
     rw [K4,hd,oN,hb]
     simp
     omega
 . have th:¬ (i:Int) < s.length:=by omega
   simp only [th,eB,show (false == true)=false from rfl,cF,aM,bU,if_false,al,bm]
   refine ak.eq hR ?_
   rw [K4,List.drop_eq_nil_of_le (by omega)]
   simp; omega
end Go.Rip
namespace Go.Rip
open Go.Proofs Go.RowKit
theorem PM {s:aK} {i:Nat} (h:i < s.length):jZ 0 (s.take (i+1))=min (10 * jZ 0 (s.take i)+((s[i].toNat:Int) - 48)) 1000001:=by
 have:s.take (i+1)=s.take i++[s[i]]:=by rw [sw,pk h]; rfl
 rw [this]
 unfold jZ
 rw [List.foldl_append]
 rfl
theorem Kb (s:aK) (hs:s.length <= 100000):Pure K 152 [.str s] (.int .i64 (pd s)):=by
 intro U R hR
 refine Q9 ?_
 unfold Q8
 simp only [oE,al]
 refine ⟨fun m v0 v3 v6 v7 ad=>∃ i:Nat,m=s.length - i/\i <= s.length/\v0=.str s/\v3=.int .i64 (jZ 0 (s.take i))/\v6=.int .i64 s.length/\v7=.int .i64 i/\ad=U/\(s.take i).all gJ=true,⟨s.length,0,by simp [Fn.app,jZ]⟩,?_⟩
 rintro m v0 v3 v6 v7 ad ⟨i,rfl,hi,rfl,rfl,rfl,rfl,rfl,cm⟩
 have hb:=Ek (s.take i) 0 (by omega)
 have Bd:=tY (s.take i) 0 cm (by omega)
 simp only [cb,al,bY]
 refine ⟨fun aQ=>?_,fun kn=>?_⟩
 . have aQ:i < s.length:=by omega
   rw [AU]
   refine ⟨by omega,?_⟩
   rw [iZ,getD_at aQ,gp]
   refine ⟨by omega,?_⟩
   rw [eG (o:=0) (s:=1) rfl]
   refine ⟨⟨rfl,rfl,by simp [bN]⟩,?_⟩
   rw [ig]
   refine ⟨rfl,?_⟩
   refine (xJ s[i].toNat .full [2] (by simp)).go ?_
   rw [Fu]
   simp only [ey,al]
   have fT:s.take (i+1)=s.take i++[s[i]]:=by rw [sw,pk aQ]; rfl
   cases hd:gJ s[i] with
   | false =>
     simp only [eQ,bE]
     refine ak.eq hR ?_
     have:s.all gJ=false:=by
      rw [Bool.eq_false_iff]
      intro h
      rw [fl] at h
      rw [h s[i] (List.getElem_mem aQ)] at hd
      cases hd
     simp [pd,this]
   | true =>
     have hc:=ma.1 hd
     simp only [c8,bm,aeE]
     refine ⟨bI (by omega) (by omega),?_⟩
     rw [AU]
     refine ⟨by omega,?_⟩
     rw [iZ,getD_at aQ]
     have hw:IntKind.u8.wrap ((s[i].toNat:Int) - 48)=(s[i].toNat:Int) - 48:=by
      show ((s[i].toNat:Int) - 48) % 256=_
      omega
     simp only [kT,S9,al,hw,GA,wp_cond,dN,Yg]
     refine ⟨bI (by omega) (by omega),bI (by omega) (by omega),bI (by omega) (by omega),?_⟩
     refine ⟨s.length - (i+1),by omega,i+1,rfl,by omega,rfl,?_,rfl,by simp,rfl,?_⟩
     . rw [PM aQ]
       congr 1
       omega
     . rw [fT,List.all_append,cm]; simp [hd]
 . have hi:i=s.length:=by omega
   subst hi
   rw [tn] at cm hb Bd ⊢
   have hv:IK s=jZ 0 s:=rfl
   simp only [oE,al,eY,bf,aN]
   by_cases h1:1 < s.length
   . have ug:(1:Int) < s.length:=by omega
     simp only [ug,du,gR,cx,aJ,GN,mj,br,aM,if_true,al,bY]
     have h0:s.getD (0:Int).toNat 0=s[0]:=getD_at (by omega)
     rw [h0]
     have hh:s.head?=some s[0]:=by
      cases s with
      | nil=>simp at h1
      | cons c r=>rfl
     refine ⟨⟨by omega,by omega⟩,fun OK=>?_,fun OK=>⟨fun hm=>?_,fun hm=>?_⟩⟩
     . refine ak.eq hR ?_
       have e48:s[0].toNat=(48:UInt8).toNat:=by show s[0].toNat=48; omega
       have:s[0]=48:=UInt8.toNat_inj.1 e48
       simp [pd,cm,h1,hh,this]
     . refine ak.eq hR ?_
       have:¬ s[0]=48:=fun e=>OK (by rw [e]; rfl)
       simp [pd,cm,hh,this,hv,hm]
     . refine ak.eq hR ?_
       have:¬ s[0]=48:=fun e=>OK (by rw [e]; rfl)
       simp [pd,cm,hh,this,hv,hm]
   . have ug:¬ (1:Int) < s.length:=by omega
     simp only [ug,eB,show (false == true)=false from rfl,cF,aM,bU,if_false,al,bm,bY]
     refine ⟨fun hm=>?_,fun hm=>?_⟩
     . refine ak.eq hR ?_
       simp [pd,cm,h1,hv,hm]
     . refine ak.eq hR ?_
       simp [pd,cm,h1,hv,hm]
theorem wx (s p:aK):Pure K 213 [.str s,.str p] (.bool (p.isPrefixOf s)) :=
 Pure.B6 (vs:=[.string ⟨s.toArray⟩,.string ⟨p.toArray⟩]) (v:=.bool (p.isPrefixOf s)) (fun g us h=>by
  simp only [aA,az] at h
  obtain ⟨_,_,rfl,rfl,_,_,rfl,rfl,rfl⟩:=h; rfl) (fun g=>by simp only [az]) fun w=>Tryz.strings_HasPrefix ⟨s.toArray⟩ ⟨p.toArray⟩ w
theorem yj (s:aK):(ke.find? fun x=>x.isPrefixOf s)=if bV.isPrefixOf s then some bV else if fO.isPrefixOf s then some fO else match s with
 | []=>none
 | c::_=>if c ∈ eo then some [c] else none:=by
 cases s with
 | nil=>rfl
 | cons c r =>
   by_cases h1:bV.isPrefixOf (c::r)=true
   . simp only [ke,List.find?_cons,h1,if_true]
   . by_cases h2:fO.isPrefixOf (c::r)=true
     . simp only [ke,List.find?_cons,h1,h2,if_true,bU,if_false]
     . simp only [ke,List.find?_cons,h1,h2,bU,if_false]
       have e:∀ x:UInt8,[x].isPrefixOf (c::r)=(x == c):=fun x=>by simp [List.isPrefixOf]
       simp only [show gY=[61] from rfl,show sN=[60] from rfl,show sM=[43] from rfl,show rP=[45] from rfl,show tS=[42] from rfl,show lM=[33] from rfl,show cP=[40] from rfl,show cC=[41] from rfl,show mO=[123] from rfl,show rQ=[125] from rfl,show cV=[44] from rfl,show cH=[59] from rfl,show ez=[58] from rfl,show vw=[46] from rfl,e]
       by_cases hc:c ∈ eo
       . rw [if_pos hc]
         simp only [eo,cD,List.not_mem_nil,or_false] at hc
         rcases hc with rfl | rfl | rfl | rfl | rfl | rfl | rfl | rfl | rfl | rfl | rfl | rfl | rfl | rfl <;> rfl
       . rw [if_neg hc]
         simp only [eo,cD,List.not_mem_nil,or_false,not_or] at hc
         have f:∀ x:UInt8,¬ c=x->(x == c)=false:=fun x h=>by simp [Ne.symm h]
         simp only [f _ hc.1,f _ hc.2.1,f _ hc.2.2.1,f _ hc.2.2.2.1,f _ hc.2.2.2.2.1,f _ hc.2.2.2.2.2.1,f _ hc.2.2.2.2.2.2.1,f _ hc.2.2.2.2.2.2.2.1,f _ hc.2.2.2.2.2.2.2.2.1,f _ hc.2.2.2.2.2.2.2.2.2.1,f _ hc.2.2.2.2.2.2.2.2.2.2.1,f _ hc.2.2.2.2.2.2.2.2.2.2.2.1,f _ hc.2.2.2.2.2.2.2.2.2.2.2.2.1,f _ hc.2.2.2.2.2.2.2.2.2.2.2.2.2,List.find?_nil]
theorem Ih (l:List UInt8) (c:UInt8):decide (Lib.indexByte l c < 0)=!decide (c ∈ l):=by
 induction l with
 | nil=>simp [Lib.indexByte]
 | cons b l ih =>
   have hg:=Lib.indexByte_ge l c
   unfold Lib.indexByte
   by_cases h:b=c
   . subst h; simp
   . have hc:¬ c=b:=fun e=>h e.symm
     have h':(b == c)=false:=by simp [h]
     rw [h']
     by_cases hm:c ∈ l
     . simp only [hm,du,c8,decide_eq_false_iff_not] at ih
       have h2:(Lib.indexByte l c == -1)=false:=by simp; omega
       simp [h2,hm]; omega
     . simp only [hm,eB,eQ,dS] at ih
       have h2:(Lib.indexByte l c == -1)=true:=by simp; omega
       simp [h2,hm,hc]
def Aa (s:aK):Int × Nat × aK:=match ke.find? fun x=>x.isPrefixOf s with | some x=>(0,4,x) | none=>(4,0,[])
def Js (p:Int × Nat × aK):AV:=.aH [.agg [.int .u8 p.2.1,.str p.2.2,.int .i64 0],.int .i64 p.1]
theorem SA (s:aK) (hs:s.length <= 100000):Pure K 150 [.str s] (Js (Aa s)):=by
 refine Pure.of rfl rfl (fun U=>rfl) fun R hR=>?_
 refine Q6 ?_
 unfold Q5
 rw [cz]
 intro b hb
 generalize p6:(bM _).new b _=U
 have gQ:U.box b=some [AV.int .u8 0,AV.str [],AV.int .i64 0]:=by rw [<- p6]; exact aG
 clear p6 hb
 have VE:∀ {K':AV->St->Prop} {Kp:AV->St->Prop} {z:List AV} {ps:List (Nat × AV)} {U:St},(dO none (some z) (some (2,9,1)) ps).wp K U K' Kp=(gu (fun i=>some (i * 1,1)) ps z fun z=>.val (.agg z)).wp K U K' Kp:=rfl
 rw [VE,eG (o:=0) (s:=1) rfl]
 refine ⟨⟨rfl,rfl,by simp⟩,?_⟩
 rw [eG (o:=1) (s:=1) rfl]
 refine ⟨⟨rfl,rfl,by simp [ay]⟩,?_⟩
 rw [YY]
 have fin:∀ (k:Nat) (x:aK) (e:Int) (ps:List (Nat × AV)) (ad:St),ad.box b=some [AV.int .u8 0,AV.str [],AV.int .i64 0]->td [(0,1),(1,1),(2,1)] ps [AV.int .u8 0,AV.str [],AV.int .i64 0]=some [.int .u8 k,.str x,.int .i64 0]->Aa s=(e,k,x) ->
  (dO (some [(0,1),(1,1),(2,1)]) (some [AV.int .u8 0,AV.str [],AV.int .i64 0]) none ps).wp K ad (fun v U=>(aF (some (true,3)) (.box b 0) v U).wp K U (fun _ U=>bq (some (true,3)) (.box b 0) U fun r0=>ak R (.aH [r0,.int .i64 e]) U) (aa R)) (aa R):=by
  intro k x e ps ad ff h1 h2
  refine oQ _ h1 ?_
  rw [cI ff]
  refine ⟨⟨rfl,rfl,by simp⟩,?_⟩
  rw [oW aV]
  refine ⟨by simp [ay],?_⟩
  rw [h2] at hR
  exact ak.eq (hR _) rfl
 refine ⟨fun m v0 v2 v6 v7 ad=>∃ i:Nat,m=2 - i/\i <= 2/\v0=.str s/\v2=.box b 0/\v6=.agg [.str bV,.str fO]/\v7=.int .i64 i/\ad.box b=some [AV.int .u8 0,AV.str [],AV.int .i64 0]/\(0 < i->bV.isPrefixOf s=false)/\(1 < i->fO.isPrefixOf s=false),
  ⟨2,0,rfl,by omega,rfl,rfl,rfl,rfl,gQ,by simp,by simp⟩,?_⟩
 rintro m v0 v2 v6 v7 ad ⟨i,rfl,hi,rfl,rfl,rfl,rfl,ff,CX,hn1⟩
 simp only [cb,al,bY]
 refine ⟨fun aQ=>?_,fun kn=>?_⟩
 . have aQ:i < 2:=by omega
   obtain rfl | rfl:i=0\/i=1:=by omega
   . simp only [iv,wp_cond]
     refine ⟨by omega,?_⟩
     simp only [show ((0:Nat):Int).toNat * 1=0 from rfl,List.drop,iX,al]
     refine (wx s bV).go ?_
     cases hp:bV.isPrefixOf s with
     | true =>
       simp only [bE]
       refine fin 4 bV 0 _ ad ff rfl ?_
       simp [Aa,yj,hp]
     | false =>
       simp only [bm,dN]
       exact ⟨bI (by omega) (by omega),1,by omega,1,rfl,by omega,rfl,rfl,rfl,rfl,ff,fun _=>by first | exact hp | trivial,by simp⟩
   . simp only [iv,wp_cond]
     refine ⟨by omega,?_⟩
     simp only [show ((1:Nat):Int).toNat * 1=1 from rfl,List.drop,iX,al]
     refine (wx s fO).go ?_
     cases hp:fO.isPrefixOf s with
     | true =>
       simp only [bE]
       refine fin 4 fO 0 _ ad ff rfl ?_
       simp [Aa,yj,hp,CX (by omega)]
     | false =>
       simp only [bm,dN]
       exact ⟨bI (by omega) (by omega),0,by omega,2,rfl,by omega,rfl,rfl,rfl,rfl,ff,fun _=>CX (by omega),fun _=>by first | exact hp | trivial⟩
 . have hi2:i=2:=by omega
   subst hi2
   have p0:=CX (by omega)
   have p1:=hn1 (by omega)
   simp only [mz,al,bf,aN]
   cases s with
   | nil =>
     simp only [show w_=([]:List UInt8) from rfl,du,show (true == false)=false from rfl,cF,aM,if_true,al,bE]
     exact fin 0 [] 4 _ ad ff rfl rfl
   | cons c r =>
     have cn:¬ (c::r=w_):=by simp [show w_=([]:List UInt8) from rfl]
     simp only [cn,eB,gR,cx,aJ,GN,mj,aM,bU,if_false,al]
     refine ⟨by simp,_,wM eo c.toNat,?_⟩
     simp only [cb,aJ,aM,bU,if_false,al]
     have hcc:((c.toNat:Int).toNat).toUInt8=c:=by simp
     rw [hcc,Ih]
     cases hm:decide (c ∈ eo) with
     | false =>
       have O3:¬ c ∈ eo:=by simpa using hm
       simp only [eQ,bE]
       refine fin 0 [] 4 _ ad ff rfl ?_
       simp [Aa,yj,p0,p1,O3]
     | true =>
       have O3:c ∈ eo:=by simpa using hm
       simp only [c8,bm,s8,nL,jX,wp_cond,al]
       refine ⟨⟨by omega,by omega,by simp; omega⟩,?_⟩
       refine fin 4 [c] 0 _ ad ff rfl ?_
       simp [Aa,yj,p0,p1,O3]
end Go.Rip
namespace Go.Rip
open Go.Proofs Go.RowKit
theorem Iz (s:aK):∀ l:List aK,nT .s (.str s) (.bool false) false (l.map .str) (l.map fun _=>.bool true)=.val (.bool (decide (s ∈ l)))
 | []=>by simp [nT]
 | x::l=>by
   simp only [eC,nT,iw]
   by_cases h:s=x
   . subst h; simp
   . rw [show (s == x)=false by simp [h]]
     have:=Iz s l
     simp only [bU,if_false,this]
     simp [h]
theorem SV:DM=.fY (ni.map .str) (ni.map fun _=>.bool true):=rfl
theorem NS (s:aK) (U:St):et (some (.s,4)) (some (AV.bool false)) DM (.str s) false U=.val (.bool (decide (s ∈ ni))):=by
 rw [SV]
 simp only [et,kB,qk]
 exact Iz s ni
theorem CI (s:aK) (hs:s.length <= 100000):Pure K 77 [.str s] (Js (iI s)):=by
 refine Pure.of rfl rfl (fun U=>rfl) fun R hR=>?_
 refine Va ?_
 unfold Xb
 rw [cz]
 intro b hb
 generalize p6:(bM _).new b _=U
 have gQ:U.box b=some [AV.int .u8 0,AV.str [],AV.int .i64 0]:=by rw [<- p6]; exact aG
 clear p6 hb
 refine (run_pure s hs).go ?_
 have si:s.take (s.takeWhile dm).length=s.takeWhile dm:=by
  have:=vQ dm (l:=s)
  exact (List.prefix_iff_eq_take.1 this).symm
 have hle:(s.takeWhile dm).length <= s.length:=(vQ dm).length_le
 simp only [s8,nL,jX,wp_cond,al,iZ,si,show (0:Int).toNat=0 from rfl,eD,mz,bY]
 refine ⟨⟨by omega,by omega,by omega⟩,fun h0=>?_,fun h0=>?_⟩
 . have h0:s.takeWhile dm=[]:=h0
   refine (SA s hs).go ?_
   simp only [Js,bu,List.drop,bA]
   rw [cI gQ]
   refine ⟨⟨rfl,rfl,by simp⟩,?_⟩
   rw [oW aV]
   refine ⟨by simp [ay],ak.eq (hR _) ?_⟩
   have:iI s=Aa s:=by unfold iI Aa; rw [h0]; rfl
   rw [this]; rfl
 . cases hw:s.takeWhile dm with
   | nil=>exact absurd hw h0
   | cons c r =>
     have hlw:(c::r).length <= s.length:=by rw [<- hw]; exact hle
     have ht:iI s=if gJ c then (pd (c::r),2,c::r) else if lI c=false then (4,0,[]) else if (c::r) ∈ ni then (0,3,c::r) else if 12 < (c::r).length then (4,0,[]) else (0,1,c::r):=by
      unfold iI; rw [hw]
     have fin:∀ (k:Nat) (x:aK) (e:Int) (zs:List AV) (ad:St),zs=[.int .u8 k,.str x,.int .i64 0]->ad.box b=some [AV.int .u8 0,AV.str [],AV.int .i64 0]->iI s=(e,k,x) ->
      (aF (some (true,3)) (.box b 0) (.agg zs) ad).wp K ad (fun _ U=>bq (some (true,3)) (.box b 0) U fun r0=>ak R (.aH [r0,.int .i64 e]) U) (aa R):=by
      intro k x e zs ad hz ff h2
      subst hz
      rw [cI ff]
      refine ⟨⟨rfl,rfl,by simp⟩,?_⟩
      rw [oW aV]
      refine ⟨by simp [ay],?_⟩
      rw [h2] at hR
      exact ak.eq (hR _) rfl
     have one:∀ (cl:Int) (K':AV->St->Prop) (ad:St),K' (.bool (decide (cls c.toNat ∈ [cl]))) ad ->
      (iv true none none (.str (c::r)) (.int .i64 0)).wp K ad (fun cu U=>(ar (some (178,1)) (some [AV.int .i64 0]) 1 false [(0,(AV.int .i64 cl))]).wp K U (fun da U=>ae K 151 [cu,da] U (ag K' (aa R))) (aa R)) (aa R):=by
      intro cl K' ad h
      rw [AU]
      refine ⟨⟨by omega,by simp⟩,?_⟩
      rw [gp]
      refine ⟨by omega,?_⟩
      rw [eG (o:=0) (s:=1) rfl]
      refine ⟨⟨rfl,rfl,by simp [bN]⟩,?_⟩
      rw [ig]
      refine ⟨rfl,?_⟩
      exact (xJ c.toNat .full [cl] (by simp)).go h
     refine one 2 _ _ ?_
     rw [Fu]
     cases hd:gJ c with
     | true =>
       simp only [bE]
       refine oQ [.int .u8 2,.str (c::r),.int .i64 0] rfl ?_
       refine (Kb (c::r) (by omega)).go ?_
       exact fin 2 (c::r) _ _ _ rfl gQ (by rw [ht,if_pos hd])
     | false =>
       simp only [bm]
       refine one 3 _ _ ?_
       rw [Pp]
       simp only [ey,al]
       have yH:¬ (gJ c=true):=by rw [hd]; simp
       cases p5:lI c with
       | false =>
         simp only [eQ,bE]
         refine oQ [.int .u8 0,.str [],.int .i64 0] rfl ?_
         exact fin 0 [] _ _ _ rfl gQ (by rw [ht,if_neg yH,if_pos p5])
       | true =>
         have eO:¬ (lI c=false):=by rw [p5]; simp
         simp only [c8,bm]
         refine DO.go ?_
         simp only [NS,al,bY,oE,eY]
         refine ⟨fun hk=>?_,fun hk=>⟨fun hl=>?_,fun hl=>?_⟩⟩
         . refine oQ [.int .u8 3,.str (c::r),.int .i64 0] rfl ?_
           exact fin 3 (c::r) _ _ _ rfl gQ (by rw [ht,if_neg yH,if_neg eO,if_pos hk])
         . refine oQ [.int .u8 0,.str [],.int .i64 0] rfl ?_
           exact fin 0 [] _ _ _ rfl gQ (by rw [ht,if_neg yH,if_neg eO,if_neg hk,if_pos (by omega)])
         . refine oQ [.int .u8 1,.str (c::r),.int .i64 0] rfl ?_
           exact fin 1 (c::r) _ _ _ rfl gQ (by rw [ht,if_neg yH,if_neg eO,if_neg hk,if_neg (by omega)])
end Go.Rip
namespace Go.Rip
open Go.Proofs Go.RowKit
theorem DB (u:aK):(Lib.indexByte u 10=-1/\u.takeWhile (fun c=>c.toNat ≠ 10)=u)\/∃ k:Nat,Lib.indexByte u 10=k/\k < u.length/\u.takeWhile (fun c=>c.toNat ≠ 10)=u.take k:=by
 have oS:∀ c:UInt8,c.toNat=10 ↔ c=10:=fun c=>⟨fun h=>UInt8.toNat_inj.1 h,fun h=>by rw [h]; rfl⟩
 induction u with
 | nil=>left; exact ⟨rfl,rfl⟩
 | cons b u ih =>
   unfold Lib.indexByte
   by_cases hb:b=10
   . right
     refine ⟨0,by simp [hb],by simp,?_⟩
     rw [oN]
     simp [(oS b).2 hb]
   . have ff:(b == 10)=false:=by simp [hb]
     have hn:(decide (b.toNat ≠ 10))=true:=by simp [oS,hb]
     rw [oN,hn]
     rcases ih with ⟨h1,h2⟩ | ⟨k,h1,h2,h3⟩
     . left; rw [h1,h2]; simp [ff]
     . right
       refine ⟨k+1,?_,by simp; omega,?_⟩
       . rw [h1,ff]
         have:((k:Int) == -1)=false:=by simp
         simp [this]
       . simp only [if_true,List.take_succ_cons,h3]
theorem Tm (u:aK) (hu:u.length <= 100000):∃ y z,Pure K 148 [.str u,.str rO] (.aH [.str (u.takeWhile fun c=>c.toNat ≠ 10),y,z]):=by
 have go:∀ x y z,Pure K 212 [.str u,.str rO] (.aH [x,y,z])->Pure K 148 [.str u,.str rO] (.aH [x,y,z]):=fun x y z h U R hR=>by
  refine Q2 ?_
  refine h.go ?_
  simp only [bu,List.drop,bA]
  exact ak.mk hR
 have hi:=wN u 10
 rcases DB u with ⟨h1,h2⟩ | ⟨k,h1,h2,h3⟩
 . refine ⟨_,_,go _ (.str w_) (.bool false) fun U R hR=>?_⟩
   refine F8 ?_
   refine hi.go ?_
   rw [h1]
   simp only [il,al,show decide ((0:Int) <= -1)=false from rfl,bm]
   rw [h2] at hR
   exact ak.mk hR
 . refine ⟨_,_,go _ (.str (u.drop (k+1))) (.bool true) fun U R hR=>?_⟩
   refine F8 ?_
   refine hi.go ?_
   rw [h1]
   have h0:decide ((0:Int) <= (k:Nat))=true:=by simp
   simp only [il,al,h0,bE,s8,nL,jX,mE,aJ,oE,Nq,show (rO:List UInt8).length=1 from rfl,iZ]
   refine ⟨⟨by omega,by omega,by omega⟩,bI (by omega) (by omega),⟨by omega,by omega,by omega⟩,?_⟩
   rw [h3] at hR
   refine ak.eq hR ?_
   have e1:((k:Int)+((1:Nat):Int)).toNat=k+1:=by omega
   simp [e1]
theorem XQ {U:St} {R:cR->St->Prop} {b n:Nat} {c:lg} {l:List Tk} {t:Tk} {a:AV} (hb:U.box b=some [.vec n c (jB (l++[t]))]) (hn:n=l.length+1) (hl:l.length <= 900) (h:R (.ret (.int .i64 t.s.length)) U):ae K 75 [a,.box b 0] U R:=by
 refine U8 ?_
 subst hn
 unfold W9
 simp only [gz hb,List.drop,bA,tX,al,GR]
 refine ⟨bI (by omega) (by omega),?_⟩
 rw [Cq]
 refine ⟨by omega,?_⟩
 have e:(((l.length+1:Nat):Int) - 1).toNat=l.length:=by omega
 rw [e]
 obtain ⟨r,hr⟩:=Ez (L:=l++[t]) (i:=l.length) (t:=t) (by simp)
 rw [hr]
 simp only [dJ,al,qf,ix,List.drop,ox,bA,oE]
 exact ak.mk h
def sD (l:List Tk):AV:=if l=[] then .ah else .vec l.length .iE (jB l)
theorem BI (l l':List Tk):jB (l++l')=jB l++jB l':=by simp [jB]
structure TI (U:St) (b1 b2 b3 b4 b7 bs bd:Nat) (s:aK) (l:List Tk):Prop where
 h1:U.box b1=some [.str s]
 h2:∃ x,U.box b2=some [x]
 h3:∃ x,U.box b3=some [x]
 h4:∃ x,U.box b4=some [x]
 h7:∃ v,U.box b7=some [v]/\Grow U v 51 3 l.length (jB l)/\(l=[]->v=.ah)
 hs:U.box bs=some [.str s]
 hd:U.box bd=some [.func (.func 75) [] [.box b7 0]]
theorem fM {U ad:St} {b:Nat} (h:ad.live b=U.live b):ad.loop b=U.loop b:=by simp [St.loop,h]
theorem fQ {U:St} {b:Nat} {L:fF}:(U.set b (.loop L)).loop b=some L:=by simp [St.loop,dR]
theorem vM {U:St} {b:Nat} {L:fF}:(U.new b (.loop L)).loop b=some L:=by simp [St.loop,mB]
theorem bT {U:St} {b b':Nat} {l:List AV} {L:fF} (h:U.box b=some l) (k:U.loop b'=some L):b ≠ b':=by
 rintro rfl
 unfold St.box at h; unfold St.loop at k
 split at k
 . rename_i e; simp [e] at h
 . cases k
theorem sL {U:St} {b b':Nat} {l:Tok} {L:fF} (h:U.tok b=some l) (k:U.loop b'=some L):b ≠ b':=by
 rintro rfl
 unfold St.tok at h; unfold St.loop at k
 split at k
 . rename_i e; simp [e] at h
 . cases k
theorem TI.sx {U:St} {b1 b2 b3 b4 b7 bs bd o:Nat} {s:aK} {l:List Tk} (T:TI U b1 b2 b3 b4 b7 bs bd s l) {L L':fF} (hL:U.loop o=some L):TI (U.set o (.loop L')) b1 b2 b3 b4 b7 bs bd s l:=by
 have k:∀ {b:Nat} {x:List AV},U.box b=some x->(U.set o (.loop L')).box b=some x:=fun h=>by rw [aO (bT h hL)]; exact h
 obtain ⟨v,g1,g2,g3⟩:=T.h7
 refine ⟨k T.h1,T.h2.imp fun _ h=>k h,T.h3.imp fun _ h=>k h,T.h4.imp fun _ h=>k h,⟨v,k g1,?_,g3⟩,k T.hs,k T.hd⟩
 rcases g2 with g2 | ⟨τ,e,ht,hl⟩
 . exact .inl g2
 . exact .inr ⟨τ,e,by rw [gX (sL ht hL)]; exact ht,hl⟩
theorem TI.A6 {U ad:St} {b1 b2 b3 b4 b7 bs bd:Nat} {s:aK} {l:List Tk} (T:TI U b1 b2 b3 b4 b7 bs bd s l) (e:cW U ad):TI ad b1 b2 b3 b4 b7 bs bd s l:=by
 obtain ⟨v,g1,g2,g3⟩:=T.h7
 refine ⟨e.aX T.h1,T.h2.imp fun _ h=>e.aX h,T.h3.imp fun _ h=>e.aX h,T.h4.imp fun _ h=>e.aX h,⟨v,e.aX g1,?_,g3⟩,e.aX T.hs,e.aX T.hd⟩
 rcases g2 with g2 | ⟨τ,e1,ht,hl⟩
 . exact .inl g2
 . exact .inr ⟨τ,e1,e.tok ht,hl⟩
theorem Pure.PO {f:Nat} {args:List AV} {x:AV} (hargs:cA args=true) (hx:closed x=true)
 (h:∀ R:cR->St->Prop,(∀ v ad,resolve 5 ad v=x->R (.ret v) ad)->ae K f args (bM ⟨.e,0⟩) R):Pure K f args x :=
 Pure.AG Ba hargs hx 5 (h _ fun v ad e=>⟨v,rfl,e⟩)
theorem Ki (n:Nat) (U:St) (l:List Tk):(jB l).map (resolve (n+1) U)=jB l:=by
 induction l with
 | nil=>rfl
 | cons t l ih =>
   show ((qf t++jB l).map (resolve (n+1) U))=qf t++jB l
   rw [List.map_append,ih]; rfl
theorem L9 (l:List Tk):cA (jB l)=true:=by
 induction l with
 | nil=>rfl
 | cons t l ih=>show cA (qf t++jB l)=true; simp [qf,cA,closed,ih]
theorem JN (l:List Tk):closed (sD l)=true:=by
 unfold sD; split
 . rfl
 . exact L9 l
theorem I8 {U ad:St} {v:AV} {l:List Tk} (n:Nat) (h:Grow U v 51 3 l.length (jB l)) (h0:l=[]->v=.ah):resolve (n+2) ad v=sD l:=by
 unfold sD
 split
 . rename_i e; rw [h0 e]; rfl
 . rename_i e
   rcases h with ⟨h1,_,_⟩ | ⟨τ,rfl,_,_⟩
   . exact absurd (sv.1 h1) e
   . show AV.vec l.length .iE ((jB l).map (resolve (n+1) ad))=_
     rw [Ki]
def ta:GY->AV
 | .ok l=>.aH [sD l,.int .i64 0,.int .i64 0]
 | .bad p e=>.aH [.ah,.int .i64 p,.int .i64 e]
theorem cW.loop {U ad:St} {b:Nat} {L:fF} (h:cW U ad) (k:U.loop b=some L):ad.loop b=some L:=by
 cases e:U.live b with
 | none=>simp [St.loop,e] at k
 | some x=>rw [fM ((h b x e).trans e.symm)]; exact k
theorem nG {U ad:St} {v:AV} {e sz n:Nat} {l:List AV} (g:Grow U v e sz n l) (e1:∀ b x,(∀ n l,v ≠ .vec n (.own b) l)->U.live b=some x->ad.live b=some x) :
 (∀ {b:Nat} {x:List AV},U.box b=some x->ad.box b=some x)/\(∀ {b:Nat} {L:fF},U.loop b=some L->ad.loop b=some L):=by
 refine ⟨fun {b x} h=>?_,fun {b L} h=>?_⟩
 . cases e:U.live b with
   | none=>exact absurd e (cj h)
   | some y =>
     have:=e1 b y (fun n' l' hv=>by
      rcases g with ⟨_,_,g⟩ | ⟨τ,g,ht,_⟩
      . rw [g] at hv; cases hv
      . rw [g] at hv; cases hv; exact eV h ht rfl) e
     rw [dy (this.trans e.symm)]; exact h
 . cases e:U.live b with
   | none=>simp [St.loop,e] at h
   | some y =>
     have:=e1 b y (fun n' l' hv=>by
      rcases g with ⟨_,_,g⟩ | ⟨τ,g,ht,_⟩
      . rw [g] at hv; cases hv
      . rw [g] at hv; cases hv; exact sL ht h rfl) e
     rw [fM (this.trans e.symm)]; exact h
theorem st3 {U:St} {b2 b3 b4:Nat} {lv:AV} {p e:Int} {K':AV->St->Prop} {Kp:AV->St->Prop} (h2:∃ x,U.box b2=some [x]) (h3:∃ x,U.box b3=some [x]) (h4:∃ x,U.box b4=some [x]) (Ll:b2 ≠ b3) (Bw:b2 ≠ b4) (IE:b3 ≠ b4) (hl:lv.dc=true/\au lv=[lv])
 (h:∀ iJ,iJ.box b2=some [lv]->iJ.box b3=some [.int .i64 p]->iJ.box b4=some [.int .i64 e]->(∀ b,b ≠ b2->b ≠ b3->b ≠ b4->iJ.live b=U.live b)->K' (.aH []) iJ) :
 (aF (some (false,1)) (.box b2 0) lv U).wp K U (fun _ U=>(aF (some (false,1)) (.box b3 0) (.int .i64 p) U).wp K U (fun _ U=>(aF (some (false,1)) (.box b4 0) (.int .i64 e) U).wp K U K' Kp) Kp) Kp:=by
 obtain ⟨x2,h2⟩:=h2
 obtain ⟨x3,h3⟩:=h3
 obtain ⟨x4,h4⟩:=h4
 rw [cI h2]
 refine ⟨⟨hl.1,by rw [hl.2]; rfl,by simp⟩,?_⟩
 rw [cI (show (U.set b2 _).box b3=some [x3] by rw [aO Ll.symm]; exact h3)]
 refine ⟨⟨rfl,rfl,by simp⟩,?_⟩
 rw [cI (show ((U.set b2 _).set b3 _).box b4=some [x4] by rw [aO IE.symm,aO Bw.symm]; exact h4)]
 refine ⟨⟨rfl,rfl,by simp⟩,h _ ?_ ?_ ?_ fun b m2 m3 m4=>?_⟩
 . rw [aO Bw,aO Ll,aV,hl.2]; rfl
 . rw [aO IE,aV]; rfl
 . rw [aV]; rfl
 . rw [dR,if_neg m4,dR,if_neg m3,dR,if_neg m2]
theorem vU (s:aK) (hs:s.length <= 3000):Pure K 33 [.str s] (ta (jY s)):=by
 refine Pure.PO rfl (by cases jY s with | ok l=>simp [ta,closed,cA,JN] | bad p e=>rfl) fun R hR=>?_
 refine UT ?_
 unfold WV
 rw [fA rfl]
 intro b1 gQ
 rw [cz]
 intro b2 gg
 rw [cz]
 intro b3 lq
 rw [cz]
 intro b4 gN
 have n12:b1 ≠ b2:=gg.bP aG
 have g1:=aG (U:=bM ⟨.e,0⟩) (b:=b1) (l:=au (.str s))
 generalize Ub:(bM _).new b1 _=aR at *
 have g1':=(bg gg (x:=.box [.ah])).aX g1
 have g2:=aG (U:=aR) (b:=b2) (l:=[.ah])
 generalize Uc:aR.new b2 _=a7 at *
 have aaK:=(bg lq (x:=.box [.int .i64 0])).aX g1'
 have g2':=(bg lq (x:=.box [.int .i64 0])).aX g2
 have g3:=aG (U:=a7) (b:=b3) (l:=[.int .i64 0])
 have Ll:b2 ≠ b3:=lq.bP g2
 generalize afD:a7.new b3 _=bO at *
 have k1:=(bg gN (x:=.box [.int .i64 0])).aX aaK
 have k2:=(bg gN (x:=.box [.int .i64 0])).aX g2'
 have k3:=(bg gN (x:=.box [.int .i64 0])).aX g3
 have k4:=aG (U:=bO) (b:=b4) (l:=[.int .i64 0])
 have Bw:b2 ≠ b4:=gN.bP g2'
 have IE:b3 ≠ b4:=gN.bP g3
 generalize Ie:bO.new b4 _=cG at *
 clear Ub Uc afD Ie g1 g1' aaK g2 g2' g3 gQ gg lq gN
 replace k1:cG.box b1=some [.str s]:=k1
 have fin:∀ (ad:St) (lv:AV) (p e:Int),ad.box b2=some [lv]->ad.box b3=some [.int .i64 p]->ad.box b4=some [.int .i64 e]->(∀ iJ,resolve 5 iJ (.aH [lv,.int .i64 p,.int .i64 e])=ta (jY s)) ->
  bq (some (false,1)) (.box b2 0) ad fun r0=>bq (some (false,1)) (.box b3 0) ad fun r1=>bq (some (false,1)) (.box b4 0) ad fun r2=>ak R (.aH [r0,r1,r2]) ad:=by
  intro ad lv p e m2 m3 m4 hres
  rw [ye m2 (eD),ye m3 (eD),ye m4 (eD)]
  exact ak.mk (hR _ _ (hres _))
 simp only [gz k1,ET,List.drop,bA]
 refine (Tj s).go ?_
 simp only [bu,List.drop,bA,dp,al]
 have kD:jY s=if (te s).2 ≠ 0 then .bad (te s).1 (te s).2 else fL s.length s 0 []:=rfl
 by_cases he:(te s).2=0
 . simp only [he,du,c8,bm]
   rw [if_neg (by simp [he])] at kD
   rw [cz]
   intro b7 mG
   have n71:=(mG.bP k1).symm
   have n72:=(mG.bP k2).symm
   have n73:=(mG.bP k3).symm
   have n74:=(mG.bP k4).symm
   have e5:=bg mG (x:=.box [.ah])
   have m7:=aG (U:=cG) (b:=b7) (l:=[.ah])
   generalize afE:cG.new b7 _=di at *
   rw [gz (e5.aX k1),eD,bA]
   refine U9 ?_
   unfold Xa
   rw [fA rfl]
   intro bs OP
   have n7s:=OP.bP m7
   have e6:=bg OP (x:=.box (au (.str s)))
   have ms:=aG (U:=di) (b:=bs) (l:=au (.str s))
   generalize afF:di.new bs _=mK at *
   rw [fA rfl]
   intro bd hbd
   have n7d:=hbd.bP (e6.aX m7)
   have e7:=bg hbd (x:=.box (au (.func (.func 75) [] [.box b7 0])))
   have md:=aG (U:=mK) (b:=bd) (l:=au (.func (.func 75) [] [.box b7 0]))
   generalize afG:mK.new bd _=jo at *
   refine ak.mk ?_
   refine ⟨by kernel_rfl,fun o L ho HE ON Y=>?_⟩
   have Oq:=e5.trans (e6.trans e7)
   have T7:TI jo b1 b2 b3 b4 b7 bs bd s []:=⟨Oq.aX k1,⟨_,Oq.aX k2⟩,⟨_,Oq.aX k3⟩,⟨_,Oq.aX k4⟩,⟨_,(e6.trans e7).aX m7,.inl ⟨rfl,rfl,rfl⟩,fun _=>rfl⟩,e7.aX ms,md⟩
   have T8:=T7.A6 (bg ho (x:=.loop L))
   have L8:=vM (U:=jo) (b:=o) (L:=L)
   generalize afH:jo.new o _=vA at *
   clear afE afF afG afH T7 Oq e5 e6 e7 m7 ms md ho hbd OP mG k1 k2 k3 k4
   refine Q1 ?_
   unfold Q0
   refine ⟨fun m v0 v1 v2 v4 ad=>∃ f p l,m=s.length - p/\v0=.rZ o/\v1=.box bs 0/\v2=.box bd 0/\v4=.int .i64 (p:Nat)/\p <= s.length/\s.length - p <= f/\l.length <= 900/\fL f s p l=jY s/\TI ad b1 b2 b3 b4 b7 bs bd s l/\∃ L1,ad.loop o=some L1/\L1.st .ready none=L/\L1.state=.ready/\L1.fZ=none,
    ⟨_,s.length,0,[],rfl,rfl,rfl,rfl,rfl,by omega,by omega,by simp,kD.symm,T8,L,L8,by cases L; simp_all [fF.st],HE,ON⟩,?_⟩
   clear T8 L8 kD he
   rintro m v0 v1 v2 v4 tb ⟨f,p,l,rfl,rfl,rfl,rfl,rfl,hp,hf,V5,kD,T,L1,js,fT,Bn,Bm⟩
   rw [gz T.hs,eD,bA]
   simp only [oE,al,cb,bY]
   refine ⟨fun aQ=>?_,fun kn=>?_⟩
   . have aQ:p < s.length:=by omega
     have CR:s.drop p=s[p]::s.drop (p+1):=gT aQ
     cases f with
     | zero=>omega
     | succ f =>
     simp only [fL] at kD
     rw [CR] at kD
     simp only at kD
     rw [gz T.hs,eD,bA,AU]
     refine ⟨by omega,?_⟩
     rw [iZ,getD_at aQ]
     intro jj Bi
     have c32:((s[p].toNat:Int)=32)=(s[p].toNat=32):=by simp; omega
     have c10:((s[p].toNat:Int)=10)=(s[p].toNat=10):=by simp; omega
     have aeS:((s[p].toNat:Int)=126)=(s[p].toNat=126):=by simp; omega
     have blank:s[p].toNat=32\/s[p].toNat=10->jj (.rZ o) (.box bs 0) (.box bd 0) (.int .i64 (p:Nat)) (.int .u8 s[p].toNat) (.bool true) tb:=fun h=>by
      refine Bi _ _ _ _ _ _ _ ?_
      rw [if_pos h] at kD
      simp only [bE,dN]
      exact ⟨bI (by omega) (by omega),_,by omega,f,p+1,l,rfl,rfl,rfl,rfl,by simp,by omega,by omega,V5,kD,T,L1,js,fT,Bn,Bm⟩
     have other:¬ (s[p].toNat=32\/s[p].toNat=10)->jj (.rZ o) (.box bs 0) (.box bd 0) (.int .i64 (p:Nat)) (.int .u8 s[p].toNat) (.bool false) tb:=fun h=>by
      refine Bi _ _ _ _ _ _ _ ?_
      rw [if_neg h] at kD
      simp only [bm,br,al,bY,aeS]
      have after:∀ {iJ:St} {L2:fF},L2={ L1 with state:=.ready,fZ:=none }->L2.st .ready none=L/\L2.state=.ready/\L2.fZ=none:=fun h=>by
       subst h; exact ⟨by rw [<- fT]; rfl,rfl,rfl⟩
      refine ⟨fun D2=>?_,fun D2=>?_⟩
      . rw [if_pos D2] at kD
        rw [gz T.hs,eD,bA]
        have hdn:((s.take s.length).drop p)=s[p]::s.drop (p+1):=by rw [tn,CR]
        simp only [s8,nL,jX,wp_cond,al,iZ,hdn]
        refine ⟨⟨by omega,by omega,by omega⟩,?_⟩
        obtain ⟨y,z,ae7⟩:=Tm (s[p]::s.drop (p+1)) (by rw [<- CR]; simp; omega)
        refine ae7.go ?_
        have hlen:((s[p]::s.drop (p+1)).takeWhile fun c=>c.toNat ≠ 10).length <= s.length - p:=by
         rw [<- CR]; exact Nat.le_trans (vQ _).length_le (by simp)
        have cn:1 <= ((s[p]::s.drop (p+1)).takeWhile fun c=>c.toNat ≠ 10).length/\((s[p]::s.drop (p+1)).takeWhile fun c=>c.toNat ≠ 10) ≠ []:=by
         rw [oN]; simp [D2]
        generalize ((s[p]::s.drop (p+1)).takeWhile fun c=>c.toNat ≠ 10)=nt at *
        simp only [bu,List.drop,bA]
        simp only [iN,yx]
        refine Y _ _ _ L1 rfl js fT ?_
        refine ⟨L1,js,Bn,?_⟩
        have hnn:¬ nt=w_:=cn.2
        simp only [vE,al,hnn,eB,eQ,bE]
        refine ⟨_,fQ,?_⟩
        simp only [bB,ey,al,c8,bm,oE,dN]
        refine ⟨bI (by omega) (by omega),_,?_,f,p+nt.length,l,rfl,rfl,rfl,rfl,by simp,by omega,by omega,V5,kD,(T.sx js).sx fQ,_,fQ,?_⟩
        . omega
        . exact ⟨by rw [<- fT]; rfl,rfl,rfl⟩
      . rw [if_neg D2] at kD
        simp only [iN,yx]
        refine Y _ _ _ L1 rfl js fT ?_
        refine ⟨L1,js,Bn,?_⟩
        have T2:=T.sx (L':={ L1 with state:=.busy }) js
        have L2:(tb.set o (.loop { L1 with state:=.busy })).loop o=some { L1 with state:=.busy }:=fQ
        generalize adP:tb.set o (.loop { L1 with state:=.busy })=yA at *
        simp only [vE,al,du,c8,bm]
        rw [gz T2.h1,eD,bA]
        have hdn:((s.take s.length).drop p)=s[p]::s.drop (p+1):=by rw [tn,CR]
        simp only [s8,nL,jX,wp_cond,al,iZ,hdn]
        refine ⟨⟨by omega,by omega,by omega⟩,?_⟩
        refine (CI (s[p]::s.drop (p+1)) (by rw [<- CR]; simp; omega)).go ?_
        cases ru:iI (s[p]::s.drop (p+1)) with
        | mk e kt =>
        obtain ⟨k,tx⟩:=kt
        rw [ru] at kD
        simp only at kD
        simp only [Js,bu,List.drop,bA]
        rw [cz]
        intro ik sh
        have g11:(yA.new ik (.box [AV.int .u8 0,AV.str [],AV.int .i64 0])).box ik=some [AV.int .u8 0,AV.str [],AV.int .i64 0]:=aG
        rw [cI g11]
        refine ⟨⟨rfl,rfl,by simp⟩,?_⟩
        have Y2:=((cW.refl yA).new sh (x:=.box [AV.int .u8 0,AV.str [],AV.int .i64 0])).set (x:=.box (ay [AV.int .u8 0,AV.str [],AV.int .i64 0] 0 (au (.agg [.int .u8 (k:Nat),.str tx,.int .i64 0])))) sh.1
        have m11:((yA.new ik (.box [AV.int .u8 0,AV.str [],AV.int .i64 0])).set ik (.box (ay [AV.int .u8 0,AV.str [],AV.int .i64 0] 0 (au (.agg [.int .u8 (k:Nat),.str tx,.int .i64 0]))))).box ik=some [.int .u8 (k:Nat),.str tx,.int .i64 0]:=by rw [aV]; rfl
        have n117:b7 ≠ ik:=sh.bP (T2.h7.choose_spec.1)
        generalize (yA.new ik (.box [AV.int .u8 0,AV.str [],AV.int .i64 0])).set ik (.box (ay [AV.int .u8 0,AV.str [],AV.int .i64 0] 0 (au (.agg [.int .u8 (k:Nat),.str tx,.int .i64 0]))))=yB at *
        have T3:=T2.A6 Y2
        have L3:=Y2.loop L2
        have ads:∀ (b:Nat) (x:List AV),yA.box b=some x->b ≠ ik:=fun b x h=>sh.bP h
        clear Y2 g11 sh adP
        intro j hj
        obtain ⟨v,q1,q2,q3⟩:=T3.h7
        have cont:∀ e':Int,(e' ≠ 0->jY s=.bad p e')->(e'=0->l.length < 900/\0 < tx.length/\fL f s (p+tx.length) (l++[⟨k,tx,p⟩])=jY s)->(e'=0->e=0)->j (.box b2 0) (.box b3 0) (.box b4 0) (.box b7 0) (.int .i64 (p:Nat)) (.box ik 0) (.int .i64 e') yB:=by
         intro e' ae4 adC aa2
         refine hj _ _ _ _ _ _ _ _ ?_
         by_cases mH:e'=0
         . obtain ⟨agT,l8,hlx⟩:=adC mH
           simp only [mH,dp,al,du,c8,bm,aZ,cU]
           rw [cI m11]
           refine ⟨⟨rfl,rfl,by simp⟩,?_⟩
           have kp:∀ {b:Nat} {x:List AV},b ≠ ik->yB.box b=some x->(yB.set ik (.box (ay [.int .u8 (k:Nat),.str tx,.int .i64 0] 2 (au (.int .i64 (p:Nat)))))).box b=some x:=fun h1 h2=>by rw [aO h1]; exact h2
           rw [gz (kp n117 q1),eD,bA]
           rw [o5 aV]
           refine ⟨by simp [ay],?_⟩
           have q2':Grow (yB.set ik (.box (ay [.int .u8 (k:Nat),.str tx,.int .i64 0] 2 (au (.int .i64 (p:Nat)))))) v 51 3 l.length (jB l):=by
            rcases q2 with q2 | ⟨τ,r1,r2,r3⟩
            . exact .inl q2
            . exact .inr ⟨τ,r1,by rw [gX (eV m11 r2).symm]; exact r2,r3⟩
           have zg:∀ {b:Nat} {x:List AV},yB.box b=some x->b ≠ ik->(yB.set ik (.box (ay [.int .u8 (k:Nat),.str tx,.int .i64 0] 2 (au (.int .i64 (p:Nat)))))).box b=some x:=fun h1 h2=>kp h2 h1
           have l11:(yB.set ik (.box (ay [.int .u8 (k:Nat),.str tx,.int .i64 0] 2 (au (.int .i64 (p:Nat)))))).loop o=some { L1 with state:=.busy }:=by
            rw [fM]; exact L3
            rw [dR,if_neg (bT m11 L3).symm]
           have HF:(List.take 3 (List.drop 0 (ay [.int .u8 (k:Nat),.str tx,.int .i64 0] 2 (au (.int .i64 (p:Nat))))))=qf ⟨k,tx,p⟩:=by simp [ay,qf]
           rw [HF]
           generalize yB.set ik (.box (ay [.int .u8 (k:Nat),.str tx,.int .i64 0] 2 (au (.int .i64 (p:Nat)))))=ag0 at *
           rw [gp]
           refine ⟨by omega,?_⟩
           rw [eG (o:=0) (s:=3) rfl]
           refine ⟨⟨rfl,rfl,by simp [bN]⟩,?_⟩
           rw [ig]
           refine ⟨rfl,?_⟩
           have WK:=zg q1 n117
           refine DK (m:=1) (l2:=qf ⟨k,tx,p⟩) q2' rfl rfl (by omega) (by omega) (fun h=>q3 (sv.1 h)) fun EE v' g1 g2 g3=>?_
           obtain ⟨kb,kl⟩:=nG q2' g2
           have C0:v'.dc=true/\au v'=[v']:=by
            rcases g1 with ⟨_,_,rfl⟩ | ⟨τ,rfl,_,_⟩ <;> exact ⟨rfl,rfl⟩
           rw [cI (kb WK)]
           refine ⟨⟨C0.1,by rw [C0.2]; rfl,by simp⟩,?_⟩
           have kk:∀ {b:Nat} {x:List AV},b7 ≠ b->EE.box b=some x->(EE.set b7 (.box (ay [v] 0 (au v')))).box b=some x:=fun h1 h2=>by rw [aO h1.symm]; exact h2
           have lo:(EE.set b7 (.box (ay [v] 0 (au v')))).loop o=some { L1 with state:=.busy }:=by
            rw [fM]; exact kl l11
            rw [dR,if_neg (bT (kb WK) (kl l11)).symm]
           have DS:∀ {b:Nat} {x:List AV},yA.box b=some x->b ≠ ik:=fun h=>ads _ _ h
           have T5:TI (EE.set b7 (.box (ay [v] 0 (au v')))) b1 b2 b3 b4 b7 bs bd s (l++[⟨k,tx,p⟩]):=by
            refine ⟨kk n71 (kb (zg T3.h1 (DS T2.h1))),?_,?_,?_,⟨v',by rw [aV,C0.2]; rfl,?_,fun h=>by simp at h⟩,kk n7s (kb (zg T3.hs (DS T2.hs))),kk n7d (kb (zg T3.hd (DS T2.hd)))⟩
            . obtain ⟨x,hx⟩:=T2.h2; obtain ⟨y,hy⟩:=T3.h2; exact ⟨y,kk n72 (kb (zg hy (DS hx)))⟩
            . obtain ⟨x,hx⟩:=T2.h3; obtain ⟨y,hy⟩:=T3.h3; exact ⟨y,kk n73 (kb (zg hy (DS hx)))⟩
            . obtain ⟨x,hx⟩:=T2.h4; obtain ⟨y,hy⟩:=T3.h4; exact ⟨y,kk n74 (kb (zg hy (DS hx)))⟩
            . have el:(l++[(⟨k,tx,p⟩:Tk)]).length=l.length+1:=by simp
              rw [el,BI]
              rcases g1 with ⟨h0,_⟩ | ⟨τ,r1,r2,r3⟩
              . omega
              . exact .inr ⟨τ,r1,by rw [gX (eV (kb WK) r2).symm]; exact r2,r3⟩
           have xy:∃ c,v'=.vec (l.length+1) c (jB (l++[⟨k,tx,p⟩])):=by
            rw [BI]
            rcases g1 with ⟨h0,_⟩ | ⟨τ,r1,_,_⟩
            . omega
            . exact ⟨_,r1⟩
           have h7':(EE.set b7 (.box (ay [v] 0 (au v')))).box b7=some [v']:=by rw [aV,C0.2]; rfl
           generalize EE.set b7 (.box (ay [v] 0 (au v')))=agv at *
           refine ⟨_,lo,?_⟩
           have T6:=T5.sx (L':={ L1 with state:=.ready,fZ:=none }) lo
           obtain ⟨c,hc⟩:=xy
           subst hc
           have ae1:(agv.set o (.loop { L1 with state:=.ready,fZ:=none })).box b7=some [.vec (l.length+1) c (jB (l++[⟨k,tx,p⟩]))]:=by rw [aO (bT h7' lo)]; exact h7'
           simp only [bB,ey,al,c8,bm]
           rw [gz T6.hd,eD,bA]
           simp only [show eX K.P 75=true by kernel_rfl,if_true,lF,jN,ix]
           refine XQ ae1 rfl V5 ?_
           simp only [bB,dN]
           have mZ:p+tx.length <= s.length:=by
            have:=(EA (s:=s[p]::s.drop (p+1)) (k:=k) (t:=tx) (by rw [ru,aa2 mH])).2.length_le
            rw [<- CR] at this
            simp at this
            omega
           refine ⟨bI (by omega) (by omega),_,?_,f,p+tx.length,l++[⟨k,tx,p⟩],rfl,rfl,rfl,rfl,by simp,mZ,by omega,by simp; omega,hlx,T6,_,fQ,by rw [<- fT]; rfl,rfl,rfl⟩
           omega
         . simp only [mH,dp,al,eB,eQ,bE]
           refine st3 T3.h2 T3.h3 T3.h4 Ll Bw IE ⟨rfl,rfl⟩ fun iJ m2 m3 m4 mo=>?_
           have ob:∀ {b:Nat},(∃ x,yB.box b=some [x])->o ≠ b:=fun ⟨x,h⟩=>(bT h L3).symm
           have L4:iJ.loop o=some { L1 with state:=.busy }:=by rw [fM (mo o (ob T3.h2) (ob T3.h3) (ob T3.h4))]; exact L3
           refine ⟨_,L4,?_⟩
           simp only [bB,ey,al,eQ,bE]
           refine ak.mk ⟨_,fQ,by simp,?_⟩
           have kp:∀ {b:Nat} {x:List AV},o ≠ b->iJ.box b=some x->((iJ.set o (.loop { L1 with state:=.done,fZ:=some .ret })).del o).box b=some x:=fun h1 h2=>by rw [jg h1.symm,aO h1.symm]; exact h2
           refine fin _ _ _ _ (kp (ob T3.h2) m2) (kp (ob T3.h3) m3) (kp (ob T3.h4) m4) fun bO=>?_
           rw [ae4 mH]; rfl
        have hlen:cw (some false) v=.val (.int .i64 l.length):=by
         rcases q2 with ⟨h0,_,rfl⟩ | ⟨τ,rfl,_,_⟩
         . rw [h0]; rfl
         . rfl
        simp only [br,al,bf,aN]
        by_cases u1:e=0
        . subst u1
          simp only [du,gR,cx,su q1,eD,jF,mj,hlen,aJ,br,aM,if_true,al,bY]
          rw [if_neg (by simp)] at kD
          refine ⟨fun TS=>?_,fun TS=>?_⟩
          . rw [if_pos (by omega)] at kD
            exact cont 5 (fun _=>kD.symm) (fun h=>by omega) (fun h=>by omega)
          . rw [if_neg (by omega)] at kD
            have l8:=(EA ru).1.1
            exact cont 0 (fun h=>absurd rfl h) (fun _=>⟨by omega,List.length_pos_iff.2 l8,kD⟩) (fun _=>rfl)
        . simp only [u1,eB,show (false == true)=false from rfl,cF,aM,bU,if_false,al,bm]
          rw [if_pos u1] at kD
          exact cont e (fun _=>kD.symm) (fun h=>absurd h u1) (fun h=>h)
     simp only [br,al,bY,c32,c10]
     refine ⟨fun h=>?_,fun h=>?_⟩
     . simp only [h,du]; rw [h] at blank; exact blank (.inl rfl)
     . by_cases oS:s[p].toNat=10
       . simp only [oS,du]; rw [oS] at blank; exact blank (.inr rfl)
       . simp only [oS,eB]; exact other (fun h1=>h1.elim h oS)
   . have hd0:s.drop p=[]:=List.drop_eq_nil_of_le (by omega)
     have hlx:jY s=.ok l:=by
      rw [<- kD]
      cases f with
      | zero=>rfl
      | succ f=>simp only [fL]; rw [hd0]
     refine ak.mk ⟨L1,js,by rw [Bn]; simp,?_⟩
     rw [Bm]
     obtain ⟨v,g1,g2,g3⟩:=T.h7
     have dl:∀ {b:Nat} {x:List AV},tb.box b=some x->(tb.del o).box b=some x:=fun h=>by rw [jg (bT h js)]; exact h
     have hv:v.dc=true/\au v=[v]:=by
      rcases g2 with ⟨_,_,rfl⟩ | ⟨τ,rfl,_,_⟩ <;> exact ⟨rfl,rfl⟩
     show (aj (some (false,1)) (.box b7 0) (tb.del o)).wp K (tb.del o) _ _
     rw [gz (dl g1),eD,bA]
     refine st3 (T.h2.imp fun _ h=>dl h) (T.h3.imp fun _ h=>dl h) (T.h4.imp fun _ h=>dl h) Ll Bw IE hv fun iJ m2 m3 m4 _=>?_
     refine fin iJ _ _ _ m2 m3 m4 fun bO=>?_
     rw [hlx]
     show AV.aH [resolve 4 bO v,.int .i64 0,.int .i64 0]=_
     rw [I8 2 g2 g3]
     rfl
 . simp only [he,eB,eQ,bE]
   rw [if_pos he] at kD
   refine st3 ⟨_,k2⟩ ⟨_,k3⟩ ⟨_,k4⟩ Ll Bw IE ⟨rfl,rfl⟩ fun di m2 m3 m4 _=>?_
   exact fin di _ _ _ m2 m3 m4 fun iJ=>by rw [kD]; rfl
end Go.Rip
