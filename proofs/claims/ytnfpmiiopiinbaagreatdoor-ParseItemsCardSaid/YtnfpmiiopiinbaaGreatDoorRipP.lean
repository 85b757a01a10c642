/- Lemmas for the proof: no conditions. -/
import Derived.Test.YtnfpmiiopiinbaaGreatDoorRipZz
import Derived.Test.YtnfpmiiopiinbaaGreatDoorRipN
import Derived.Test.YtnfpmiiopiinbaaGreatDoorRipE
import Derived.Test.YtnfpmiiopiinbaaGreatDoorRipF
set_option linter.unusedVariables false
set_option linter.unusedSimpArgs false
set_option linter.loopingSimpArgs false
namespace Go.Rip
open Go.Proofs Go.RowKit
def cls (c:Int):Int:=if c=32\/c=10 then 1 else if c < 32\/c > 126 then 0 else if 48 <= c/\c <= 57 then 2 else if 97 <= c/\c <= 122 then 3 else if 65 <= c/\c <= 90 then 4 else 5
theorem Fe (c:Int):Pure K 216 [.int .u8 c] (.int .i64 (cls c)):=by
 intro U R hR
 refine Pd ?_
 simp (contextual:=true) only [Pc,BA,zD,bj,bP,kG,dO,fO,al,aU,aI,pJ,bQ,bV,aC,aL,lr,Zd,bR,bH,bq,da,dN,ite_true,ite_false,beq_true,beq_false,cI,eA,dI,if_true,if_false,true_and,and_true,not_true,not_false_iff]
 repeat' (first | refine And.intro ?_ ?_ | intro _)
 all_goals (refine ak.eq hR ?_; simp only [cls,AV.int.injEq,true_and])
 all_goals grind
def F5 (l:List Int) (s:Int):Int:=match l.findIdx? (·=s) with | some i=>i | none=>-1
theorem HI (c:j9) (l:List Int) (s:Int) (hn:l.length <= 100000):Pure K 246 [.vec l.length c (l.map (.int .i64)),.int .i64 s] (.int .i64 (F5 l s)):=by
 intro U R hR
 refine PC ?_
 simp only [PB,uV,al]
 refine ⟨fun m v0 v1 v7 v8 ad=>∃ i:Nat,m=l.length - i/\i <= l.length/\v0=.vec l.length c (l.map (.int .i64))/\v1=.int .i64 s/\v7=.int .i64 l.length/\v8=.int .i64 i/\ad=U/\∀ j,j < i->l[j]? ≠ some s,⟨l.length,0,by simp [Fn.app]⟩,?_⟩
 intro m v0 v1 v7 v8 ad hI
 obtain ⟨i,rfl,hi,rfl,rfl,rfl,rfl,rfl,hX⟩:=hI
 simp only [bP,al,bR]
 refine ⟨fun aO=>?_,fun jo=>?_⟩
 . have aO:i < l.length:=by omega
   have hd:(l.map (AV.int .i64)).drop (i * 1)=.int .i64 l[i]::(l.map (AV.int .i64)).drop (i+1):=by
    rw [Nat.mul_one,gl (by simpa using aO)]; simp
   simp only [wS,wp_cond,al,gb,hd,te,c7,bj,bR]
   refine ⟨by omega,fun he=>?_,fun bT=>?_⟩
   . refine ak.eq hR ?_
     have:l.findIdx? (·=s)=some i:=by
      rw [GC]
      refine ⟨aO,by simp [he],fun j hj=>?_⟩
      have:=hX j hj
      rw [nj (by omega)] at this
      simpa using this
     simp [F5,this]
   . simp only [kF,fl,wp_cond,al]
     refine ⟨bw (by omega) (by omega),?_⟩
     refine ⟨l.length - (i+1),by omega,i+1,rfl,by omega,rfl,rfl,rfl,by simp,rfl,fun j hj=>?_⟩
     rcases je j i with h | h
     . exact hX j h
     . have:j=i:=by omega
       subst this
       rw [nj aO]; simpa using fun h=>bT h.symm
 . refine ak.eq hR ?_
   have:l.findIdx? (·=s)=none:=by
    rw [List.findIdx?_eq_none_iff]
    intro x hx
    obtain ⟨j,hj,rfl⟩:=List.getElem_of_mem hx
    have:=hX j (by omega)
    rw [nj hj] at this
    simpa using this
   simp [F5,this]
theorem HG (l:List Int) (s:Int):decide (0 <= F5 l s)=decide (s ∈ l):=by
 unfold F5
 split
 . rename_i j hj
   obtain ⟨h1,h2,_⟩:=GC.1 hj
   have:s ∈ l:=by have:=of_decide_eq_true h2; exact this ▸ List.getElem_mem h1
   simp [this]
 . rename_i hj
   rw [List.findIdx?_eq_none_iff] at hj
   have:s ∉ l:=fun hm=>by simpa using hj s hm
   simp [this]
theorem vJ (c:Int) (cp:j9) (l:List Int) (hn:l.length <= 100000):Pure K 151 [.int .u8 c,.vec l.length cp (l.map (.int .i64))] (.bool (decide (cls c ∈ l))):=by
 intro U R hR
 refine Oi ?_
 refine (Fe c).go ?_
 refine Pb ?_
 refine (HI cp l (cls c) hn).go ?_
 simp only [fO,al,HG]
 exact ak.mk (ak.mk hR)
theorem Dw (c:UInt8):decide (cls c.toNat ∈ [2])=fS c:=by
 unfold cls fS
 rw [nY]
 simp only [jg,dI]
 grind
theorem MM (c:UInt8):decide (cls c.toNat ∈ [3])=oF c:=by
 unfold cls oF
 rw [nY]
 simp only [jg,dI]
 grind
theorem MJ (c:UInt8):decide (cls c.toNat ∈ [2,3,4])=eO c:=by
 unfold cls eO fS oF J9
 rw [nY]
 simp only [cD,List.not_mem_nil,or_false,dI,iL]
 grind
theorem ML (c:UInt8):(!decide (cls c.toNat ∈ [0]))=pB c:=by
 unfold cls pB
 rw [nY]
 simp only [jg,dI,Bool.not_eq_true',decide_eq_false_iff_not]
 grind
theorem HJ (c:UInt8):Pure K 146 [.int .u8 c.toNat] (.bool (pB c)):=by
 intro U R hR
 refine Oa ?_
 unfold N9
 rw [fN]
 refine ⟨by omega,?_⟩
 rw [ek (o:=0) (s:=1) rfl]
 refine ⟨⟨rfl,rfl,by simp [bF]⟩,?_⟩
 rw [gI]
 refine ⟨rfl,?_⟩
 refine (vJ c.toNat .full [0] (by simp)).go ?_
 simp only [dR,al,ML]
 exact ak.mk hR
theorem getD_at {s:aQ} {i:Nat} (h:i < s.length):s.getD i 0=s[i]:=by simp [qf,h]
theorem Qn (s:aQ):Pure K 74 [.str s] (.aF [.int .i64 (tO s).1,.int .i64 (tO s).2]):=by
 intro U R hR
 refine RW ?_
 unfold TP
 simp only [nE,al,dO,bR]
 unfold tO at hR
 refine ⟨fun h=>?_,fun h=>?_⟩
 . rw [if_pos (by omega)] at hR
   exact ak.mk hR
 . rw [if_neg (by omega)] at hR
   refine ⟨fun m v0 v9 v10 ad=>∃ i:Nat,m=s.length - i/\i <= s.length/\v0=.str s/\v9=.int .i64 s.length/\v10=.int .i64 i/\ad=U/\∀ j (hj:j < s.length),j < i->pB s[j]=true,⟨s.length,0,by simp [Fn.app]⟩,?_⟩
   rintro m v0 v9 v10 ad ⟨i,rfl,hi,rfl,rfl,rfl,rfl,bO⟩
   simp only [bP,al,bR]
   refine ⟨fun aO=>?_,fun jo=>?_⟩
   . have aO:i < s.length:=by omega
     rw [yY]
     refine ⟨by omega,?_⟩
     rw [gb,getD_at aO]
     refine (HJ s[i]).go ?_
     simp only [dR,al]
     cases hb:pB s[i] with
     | false =>
       simp only [eA,bH]
       have:s.findIdx? (fun c=>!pB c)=some i:=by
        rw [GC]
        exact ⟨aO,by simp [hb],fun j hj=>by simp [bO j (by omega) hj]⟩
       rw [this] at hR
       exact ak.mk hR
     | true =>
       simp only [cI,bq,dr]
       refine ⟨bw (by omega) (by omega),s.length - (i+1),by omega,i+1,rfl,by omega,rfl,rfl,by simp,rfl,fun j hj uJ=>?_⟩
       rcases je j i with h | h
       . exact bO j hj h
       . have:j=i:=by omega
         subst this; exact hb
   . have:s.findIdx? (fun c=>!pB c)=none:=by
      rw [List.findIdx?_eq_none_iff]
      intro x hx
      obtain ⟨j,hj,rfl⟩:=List.getElem_of_mem hx
      simp [bO j hj (by omega)]
     rw [this] at hR
     exact ak.mk hR
theorem wV {p:UInt8->Bool}:∀ {l:aQ},(∀ x ∈ l,p x=true)->l.takeWhile p=l
 | [],_=>rfl
 | c::l,h=>by rw [pK,h c (by simp)]; simp [wV (l:=l) fun x hx=>h x (by simp [hx])]
theorem run_pure (s:aQ) (hs:s.length <= 100000):Pure K 149 [.str s] (.int .i64 (s.takeWhile eO).length):=by
 intro U R hR
 refine Of ?_
 unfold Oe
 refine ⟨fun m v0 v2 ad=>∃ i:Nat,m=s.length - i/\i <= s.length/\v0=.str s/\v2=.int .i64 i/\ad=U/\∀ j (hj:j < s.length),j < i->eO s[j]=true,⟨s.length,0,by simp [Fn.app]⟩,?_⟩
 rintro m v0 v2 ad ⟨i,rfl,hi,rfl,rfl,rfl,bO⟩
 have nU:(s.take i).takeWhile eO=s.take i:=by
  refine wV fun x hx=>?_
  obtain ⟨j,hj,rfl⟩:=List.getElem_of_mem hx
  simp only [List.length_take] at hj
  rw [List.getElem_take]
  exact bO j (by omega) (by omega)
 have IF:s.takeWhile eO=s.take i++(s.drop i).takeWhile eO:=by
  conv=>lhs; rw [<- List.take_append_drop i s]
  rw [List.takeWhile_append,nU]
  simp
 simp only [nE,al,bP,aU,aI]
 by_cases aO:i < s.length
 . have qQ:(i:Int) < s.length:=by omega
   simp only [qQ,da,gm,bQ,aC,Ey,lr,gb,getD_at aO]
   refine ⟨by simp,?_⟩
   rw [vZ]
   refine ⟨by omega,?_⟩
   rw [sB (o:=0) (s:=1) rfl]
   refine ⟨⟨rfl,rfl,by simp [bF]⟩,?_⟩
   rw [sB (o:=1) (s:=1) rfl]
   refine ⟨⟨rfl,rfl,by simp [bF,aB]⟩,?_⟩
   rw [sB (o:=2) (s:=1) rfl]
   refine ⟨⟨rfl,rfl,by simp [bF,aB]⟩,?_⟩
   rw [yQ]
   refine ⟨rfl,_,vJ s[i].toNat .full [2,3,4] (by simp),?_⟩
   rw [MJ]
   simp only [aL,if_true,al]
   have hd:s.drop i=s[i]::s.drop (i+1):=gl aO
   cases hb:eO s[i] with
   | true =>
     simp only [bH,dr]
     refine ⟨bw (by omega) (by omega),s.length - (i+1),by omega,i+1,rfl,by omega,rfl,by simp,rfl,fun j hj uJ=>?_⟩
     rcases je j i with h | h
     . exact bO j hj h
     . have:j=i:=by omega
       subst this; exact hb
   | false =>
     simp only [bq]
     refine ak.eq hR ?_
     rw [IF,hd,pK,hb]
     simp
     omega
 . have qQ:¬ (i:Int) < s.length:=by omega
   simp only [qQ,dN,show (false == true)=false from rfl,bV,aL,bJ,if_false,al,bq]
   refine ak.eq hR ?_
   rw [IF,List.drop_eq_nil_of_le (by omega)]
   simp; omega
end Go.Rip
namespace Go.Rip
open Go.Proofs Go.RowKit
theorem Na {s:aQ} {i:Nat} (h:i < s.length):iI 0 (s.take (i+1))=min (10 * iI 0 (s.take i)+((s[i].toNat:Int) - 48)) 1000001:=by
 have:s.take (i+1)=s.take i++[s[i]]:=by rw [qU,nj h]; rfl
 rw [this]
 unfold iI
 rw [List.foldl_append]
 rfl
theorem HQ (s:aQ) (hs:s.length <= 100000):Pure K 152 [.str s] (.int .i64 (ng s)):=by
 intro U R hR
 refine Ok ?_
 unfold Oj
 simp only [nE,al]
 refine ⟨fun m v0 v3 v6 v7 ad=>∃ i:Nat,m=s.length - i/\i <= s.length/\v0=.str s/\v3=.int .i64 (iI 0 (s.take i))/\v6=.int .i64 s.length/\v7=.int .i64 i/\ad=U/\(s.take i).all fS=true,⟨s.length,0,by simp [Fn.app,iI]⟩,?_⟩
 rintro m v0 v3 v6 v7 ad ⟨i,rfl,hi,rfl,rfl,rfl,rfl,rfl,bO⟩
 have hb:=Cz (s.take i) 0 (by omega)
 have zh:=rS (s.take i) 0 bO (by omega)
 simp only [bP,al,bR]
 refine ⟨fun aO=>?_,fun jo=>?_⟩
 . have aO:i < s.length:=by omega
   rw [yY]
   refine ⟨by omega,?_⟩
   rw [gb,getD_at aO,fN]
   refine ⟨by omega,?_⟩
   rw [ek (o:=0) (s:=1) rfl]
   refine ⟨⟨rfl,rfl,by simp [bF]⟩,?_⟩
   rw [gI]
   refine ⟨rfl,?_⟩
   refine (vJ s[i].toNat .full [2] (by simp)).go ?_
   rw [Dw]
   simp only [dR,al]
   have fg:s.take (i+1)=s.take i++[s[i]]:=by rw [qU,nj aO]; rfl
   cases hd:fS s[i] with
   | false =>
     simp only [eA,bH]
     refine ak.eq hR ?_
     have:s.all fS=false:=by
      rw [Bool.eq_false_iff]
      intro h
      rw [eC] at h
      rw [h s[i] (List.getElem_mem aO)] at hd
      cases hd
     simp [ng,this]
   | true =>
     have hc:=kn.1 hd
     simp only [cI,bq,aco]
     refine ⟨bw (by omega) (by omega),?_⟩
     rw [yY]
     refine ⟨by omega,?_⟩
     rw [gb,getD_at aO]
     have hw:IntKind.u8.wrap ((s[i].toNat:Int) - 48)=(s[i].toNat:Int) - 48:=by
      show ((s[i].toNat:Int) - 48) % 256=_
      omega
     simp only [iy,Qi,al,hw,Eo,wp_cond,dr,UY]
     refine ⟨bw (by omega) (by omega),bw (by omega) (by omega),bw (by omega) (by omega),?_⟩
     refine ⟨s.length - (i+1),by omega,i+1,rfl,by omega,rfl,?_,rfl,by simp,rfl,?_⟩
     . rw [Na aO]
       congr 1
       omega
     . rw [fg,List.all_append,bO]; simp [hd]
 . have hi:i=s.length:=by omega
   subst hi
   rw [sE] at bO hb zh ⊢
   have hv:Gs s=iI 0 s:=rfl
   simp only [nE,al,dO,aU,aI]
   by_cases h1:1 < s.length
   . have r9:(1:Int) < s.length:=by omega
     simp only [r9,da,gm,bQ,aC,Ey,lr,bj,aL,if_true,al,bR]
     have h0:s.getD (0:Int).toNat 0=s[0]:=getD_at (by omega)
     rw [h0]
     have hh:s.head?=some s[0]:=by
      cases s with
      | nil=>simp at h1
      | cons c r=>rfl
     refine ⟨⟨by omega,by omega⟩,fun Ma=>?_,fun Ma=>⟨fun hm=>?_,fun hm=>?_⟩⟩
     . refine ak.eq hR ?_
       have e48:s[0].toNat=(48:UInt8).toNat:=by show s[0].toNat=48; omega
       have:s[0]=48:=UInt8.toNat_inj.1 e48
       simp [ng,bO,h1,hh,this]
     . refine ak.eq hR ?_
       have:¬ s[0]=48:=fun e=>Ma (by rw [e]; rfl)
       simp [ng,bO,hh,this,hv,hm]
     . refine ak.eq hR ?_
       have:¬ s[0]=48:=fun e=>Ma (by rw [e]; rfl)
       simp [ng,bO,hh,this,hv,hm]
   . have r9:¬ (1:Int) < s.length:=by omega
     simp only [r9,dN,show (false == true)=false from rfl,bV,aL,bJ,if_false,al,bq,bR]
     refine ⟨fun hm=>?_,fun hm=>?_⟩
     . refine ak.eq hR ?_
       simp [ng,bO,h1,hv,hm]
     . refine ak.eq hR ?_
       simp [ng,bO,h1,hv,hm]
theorem uD (s p:aQ):Pure K 213 [.str s,.str p] (.bool (p.isPrefixOf s)) :=
 Pure.Aa (vs:=[.string ⟨s.toArray⟩,.string ⟨p.toArray⟩]) (v:=.bool (p.isPrefixOf s)) (fun g us h=>by
  simp only [az,ay] at h
  obtain ⟨_,_,rfl,rfl,_,_,rfl,rfl,rfl⟩:=h; rfl) (fun g=>by simp only [ay]) fun w=>Tryz.strings_HasPrefix ⟨s.toArray⟩ ⟨p.toArray⟩ w
theorem wi (s:aQ):(nZ.find? fun x=>x.isPrefixOf s)=if bX.isPrefixOf s then some bX else if iq.isPrefixOf s then some iq else match s with
 | []=>none
 | c::_=>if c ∈ dw then some [c] else none:=by
 cases s with
 | nil=>rfl
 | cons c r =>
   by_cases h1:bX.isPrefixOf (c::r)=true
   . simp only [nZ,List.find?_cons,h1,if_true]
   . by_cases h2:iq.isPrefixOf (c::r)=true
     . simp only [nZ,List.find?_cons,h1,h2,if_true,bJ,if_false]
     . simp only [nZ,List.find?_cons,h1,h2,bJ,if_false]
       have e:∀ x:UInt8,[x].isPrefixOf (c::r)=(x == c):=fun x=>by simp [List.isPrefixOf]
       simp only [show lS=[61] from rfl,show tH=[60] from rfl,show tF=[43] from rfl,show tG=[45] from rfl,show tE=[42] from rfl,show oK=[33] from rfl,show fy=[40] from rfl,show gd=[41] from rfl,show rL=[123] from rfl,show tI=[125] from rfl,show fG=[44] from rfl,show ff=[59] from rfl,show gX=[58] from rfl,show wu=[46] from rfl,e]
       by_cases hc:c ∈ dw
       . rw [if_pos hc]
         simp only [dw,cD,List.not_mem_nil,or_false] at hc
         rcases hc with rfl | rfl | rfl | rfl | rfl | rfl | rfl | rfl | rfl | rfl | rfl | rfl | rfl | rfl <;> rfl
       . rw [if_neg hc]
         simp only [dw,cD,List.not_mem_nil,or_false,not_or] at hc
         have f:∀ x:UInt8,¬ c=x->(x == c)=false:=fun x h=>by simp [Ne.symm h]
         simp only [f _ hc.1,f _ hc.2.1,f _ hc.2.2.1,f _ hc.2.2.2.1,f _ hc.2.2.2.2.1,f _ hc.2.2.2.2.2.1,f _ hc.2.2.2.2.2.2.1,f _ hc.2.2.2.2.2.2.2.1,f _ hc.2.2.2.2.2.2.2.2.1,f _ hc.2.2.2.2.2.2.2.2.2.1,f _ hc.2.2.2.2.2.2.2.2.2.2.1,f _ hc.2.2.2.2.2.2.2.2.2.2.2.1,f _ hc.2.2.2.2.2.2.2.2.2.2.2.2.1,f _ hc.2.2.2.2.2.2.2.2.2.2.2.2.2,List.find?_nil]
theorem F6 (l:List UInt8) (c:UInt8):decide (Lib.indexByte l c < 0)=!decide (c ∈ l):=by
 induction l with
 | nil=>simp [Lib.indexByte]
 | cons b l ih =>
   have hg:=Lib.indexByte_ge l c
   unfold Lib.indexByte
   by_cases h:b=c
   . subst h; simp
   . have hc:¬ c=b:=fun e=>h e.symm
     have h':(b == c)=false:=by simp [h]
     rw [h']
     by_cases hm:c ∈ l
     . simp only [hm,da,cI,decide_eq_false_iff_not] at ih
       have h2:(Lib.indexByte l c == -1)=false:=by simp; omega
       simp [h2,hm]; omega
     . simp only [hm,dN,eA,dI] at ih
       have h2:(Lib.indexByte l c == -1)=true:=by simp; omega
       simp [h2,hm,hc]
def yj (s:aQ):Int × Nat × aQ:=match nZ.find? fun x=>x.isPrefixOf s with | some x=>(0,4,x) | none=>(4,0,[])
def G3 (p:Int × Nat × aQ):AV:=.aF [.agg [.int .u8 p.2.1,.str p.2.2,.int .i64 0],.int .i64 p.1]
theorem PL (s:aQ) (hs:s.length <= 100000):Pure K 150 [.str s] (G3 (yj s)):=by
 refine Pure.of rfl rfl (fun U=>rfl) fun R hR=>?_
 refine Oh ?_
 unfold Og
 rw [cS]
 intro b hb
 generalize om:(bC _).new b _=U
 have fX:U.box b=some [AV.int .u8 0,AV.str [],AV.int .i64 0]:=by rw [<- om]; exact aK
 clear om hb
 have Sx:∀ {K':AV->St->Prop} {Kp:AV->St->Prop} {z:List AV} {ps:List (Nat × AV)} {U:St},(eh none (some z) (some (2,9,1)) ps).wp K U K' Kp=(fm (fun i=>some (i * 1,1)) ps z fun z=>.val (.agg z)).wp K U K' Kp:=rfl
 rw [Sx,ek (o:=0) (s:=1) rfl]
 refine ⟨⟨rfl,rfl,by simp⟩,?_⟩
 rw [ek (o:=1) (s:=1) rfl]
 refine ⟨⟨rfl,rfl,by simp [aB]⟩,?_⟩
 rw [VD]
 have fin:∀ (k:Nat) (x:aQ) (e:Int) (ps:List (Nat × AV)) (ad:St),ad.box b=some [AV.int .u8 0,AV.str [],AV.int .i64 0]->tN [(0,1),(1,1),(2,1)] ps [AV.int .u8 0,AV.str [],AV.int .i64 0]=some [.int .u8 k,.str x,.int .i64 0]->yj s=(e,k,x) ->
  (eh (some [(0,1),(1,1),(2,1)]) (some [AV.int .u8 0,AV.str [],AV.int .i64 0]) none ps).wp K ad (fun v U=>(aJ (some (true,3)) (.box b 0) v U).wp K U (fun _ U=>br (some (true,3)) (.box b 0) U fun r0=>ak R (.aF [r0,.int .i64 e]) U) (aa R)) (aa R):=by
  intro k x e ps ad eH h1 h2
  refine qA _ h1 ?_
  rw [cX eH]
  refine ⟨⟨rfl,rfl,by simp⟩,?_⟩
  rw [BB aW]
  refine ⟨by simp [aB],?_⟩
  rw [h2] at hR
  exact ak.eq (hR _) rfl
 refine ⟨fun m v0 v2 v6 v7 ad=>∃ i:Nat,m=2 - i/\i <= 2/\v0=.str s/\v2=.box b 0/\v6=.agg [.str bX,.str iq]/\v7=.int .i64 i/\ad.box b=some [AV.int .u8 0,AV.str [],AV.int .i64 0]/\(0 < i->bX.isPrefixOf s=false)/\(1 < i->iq.isPrefixOf s=false),
  ⟨2,0,rfl,by omega,rfl,rfl,rfl,rfl,fX,by simp,by simp⟩,?_⟩
 rintro m v0 v2 v6 v7 ad ⟨i,rfl,hi,rfl,rfl,rfl,rfl,eH,zl,SV⟩
 simp only [bP,al,bR]
 refine ⟨fun aO=>?_,fun jo=>?_⟩
 . have aO:i < 2:=by omega
   obtain rfl | rfl:i=0\/i=1:=by omega
   . simp only [gj,wp_cond]
     refine ⟨by omega,?_⟩
     simp only [show ((0:Nat):Int).toNat * 1=0 from rfl,List.drop,gJ,al]
     refine (uD s bX).go ?_
     cases hp:bX.isPrefixOf s with
     | true =>
       simp only [bH]
       refine fin 4 bX 0 _ ad eH rfl ?_
       simp [yj,wi,hp]
     | false =>
       simp only [bq,dr]
       exact ⟨bw (by omega) (by omega),1,by omega,1,rfl,by omega,rfl,rfl,rfl,rfl,eH,fun _=>by first | exact hp | trivial,by simp⟩
   . simp only [gj,wp_cond]
     refine ⟨by omega,?_⟩
     simp only [show ((1:Nat):Int).toNat * 1=1 from rfl,List.drop,gJ,al]
     refine (uD s iq).go ?_
     cases hp:iq.isPrefixOf s with
     | true =>
       simp only [bH]
       refine fin 4 iq 0 _ ad eH rfl ?_
       simp [yj,wi,hp,zl (by omega)]
     | false =>
       simp only [bq,dr]
       exact ⟨bw (by omega) (by omega),0,by omega,2,rfl,by omega,rfl,rfl,rfl,rfl,eH,fun _=>zl (by omega),fun _=>by first | exact hp | trivial⟩
 . have hi2:i=2:=by omega
   subst hi2
   have p0:=zl (by omega)
   have p1:=SV (by omega)
   simp only [ix,al,aU,aI]
   cases s with
   | nil =>
     simp only [show w_=([]:List UInt8) from rfl,da,show (true == false)=false from rfl,bV,aL,if_true,al,bH]
     exact fin 0 [] 4 _ ad eH rfl rfl
   | cons c r =>
     have bT:¬ (c::r=w_):=by simp [show w_=([]:List UInt8) from rfl]
     simp only [bT,dN,gm,bQ,aC,Ey,lr,aL,bJ,if_false,al]
     refine ⟨by simp,_,uR dw c.toNat,?_⟩
     simp only [bP,aC,aL,bJ,if_false,al]
     have hcc:((c.toNat:Int).toNat).toUInt8=c:=by simp
     rw [hcc,F6]
     cases hm:decide (c ∈ dw) with
     | false =>
       have Ms:¬ c ∈ dw:=by simpa using hm
       simp only [eA,bH]
       refine fin 0 [] 4 _ ad eH rfl ?_
       simp [yj,wi,p0,p1,Ms]
     | true =>
       have Ms:c ∈ dw:=by simpa using hm
       simp only [cI,bq,qI,lD,iE,wp_cond,al]
       refine ⟨⟨by omega,by omega,by simp; omega⟩,?_⟩
       refine fin 4 [c] 0 _ ad eH rfl ?_
       simp [yj,wi,p0,p1,Ms]
end Go.Rip
namespace Go.Rip
open Go.Proofs Go.RowKit
theorem Gj (s:aQ):∀ l:List aQ,lI .s (.str s) (.bool false) false (l.map .str) (l.map fun _=>.bool true)=.val (.bool (decide (s ∈ l)))
 | []=>by simp [lI]
 | x::l=>by
   simp only [dV,lI,gk]
   by_cases h:s=x
   . subst h; simp
   . rw [show (s == x)=false by simp [h]]
     have:=Gj s l
     simp only [bJ,if_false,this]
     simp [h]
theorem P9:B3=.eZ (lH.map .str) (lH.map fun _=>.bool true):=rfl
theorem Lj (s:aQ) (U:St):dz (some (.s,4)) (some (AV.bool false)) B3 (.str s) false U=.val (.bool (decide (s ∈ lH))):=by
 rw [P9]
 simp only [dz,jb,oG]
 exact Gj s lH
theorem AO (s:aQ) (hs:s.length <= 100000):Pure K 77 [.str s] (G3 (jh s)):=by
 refine Pure.of rfl rfl (fun U=>rfl) fun R hR=>?_
 refine RZ ?_
 unfold TS
 rw [cS]
 intro b hb
 generalize om:(bC _).new b _=U
 have fX:U.box b=some [AV.int .u8 0,AV.str [],AV.int .i64 0]:=by rw [<- om]; exact aK
 clear om hb
 refine (run_pure s hs).go ?_
 have nU:s.take (s.takeWhile eO).length=s.takeWhile eO:=by
  have:=uc eO (l:=s)
  exact (List.prefix_iff_eq_take.1 this).symm
 have hle:(s.takeWhile eO).length <= s.length:=(uc eO).length_le
 simp only [qI,lD,iE,wp_cond,al,gb,nU,show (0:Int).toNat=0 from rfl,dJ,ix,bR]
 refine ⟨⟨by omega,by omega,by omega⟩,fun h0=>?_,fun h0=>?_⟩
 . have h0:s.takeWhile eO=[]:=h0
   refine (PL s hs).go ?_
   simp only [G3,bB,List.drop,bE]
   rw [cX fX]
   refine ⟨⟨rfl,rfl,by simp⟩,?_⟩
   rw [BB aW]
   refine ⟨by simp [aB],ak.eq (hR _) ?_⟩
   have:jh s=yj s:=by unfold jh yj; rw [h0]; rfl
   rw [this]; rfl
 . cases hw:s.takeWhile eO with
   | nil=>exact absurd hw h0
   | cons c r =>
     have hlw:(c::r).length <= s.length:=by rw [<- hw]; exact hle
     have ht:jh s=if fS c then (ng (c::r),2,c::r) else if oF c=false then (4,0,[]) else if (c::r) ∈ lH then (0,3,c::r) else if 12 < (c::r).length then (4,0,[]) else (0,1,c::r):=by
      unfold jh; rw [hw]
     have fin:∀ (k:Nat) (x:aQ) (e:Int) (zs:List AV) (ad:St),zs=[.int .u8 k,.str x,.int .i64 0]->ad.box b=some [AV.int .u8 0,AV.str [],AV.int .i64 0]->jh s=(e,k,x) ->
      (aJ (some (true,3)) (.box b 0) (.agg zs) ad).wp K ad (fun _ U=>br (some (true,3)) (.box b 0) U fun r0=>ak R (.aF [r0,.int .i64 e]) U) (aa R):=by
      intro k x e zs ad hz eH h2
      subst hz
      rw [cX eH]
      refine ⟨⟨rfl,rfl,by simp⟩,?_⟩
      rw [BB aW]
      refine ⟨by simp [aB],?_⟩
      rw [h2] at hR
      exact ak.eq (hR _) rfl
     have one:∀ (cl:Int) (K':AV->St->Prop) (ad:St),K' (.bool (decide (cls c.toNat ∈ [cl]))) ad ->
      (gj true none none (.str (c::r)) (.int .i64 0)).wp K ad (fun cm U=>(aq (some (178,1)) (some [AV.int .i64 0]) 1 false [(0,(AV.int .i64 cl))]).wp K U (fun cL U=>ae K 151 [cm,cL] U (ag K' (aa R))) (aa R)) (aa R):=by
      intro cl K' ad h
      rw [yY]
      refine ⟨⟨by omega,by simp⟩,?_⟩
      rw [fN]
      refine ⟨by omega,?_⟩
      rw [ek (o:=0) (s:=1) rfl]
      refine ⟨⟨rfl,rfl,by simp [bF]⟩,?_⟩
      rw [gI]
      refine ⟨rfl,?_⟩
      exact (vJ c.toNat .full [cl] (by simp)).go h
     refine one 2 _ _ ?_
     rw [Dw]
     cases hd:fS c with
     | true =>
       simp only [bH]
       refine qA [.int .u8 2,.str (c::r),.int .i64 0] rfl ?_
       refine (HQ (c::r) (by omega)).go ?_
       exact fin 2 (c::r) _ _ _ rfl fX (by rw [ht,if_pos hd])
     | false =>
       simp only [bq]
       refine one 3 _ _ ?_
       rw [MM]
       simp only [dR,al]
       have wL:¬ (fS c=true):=by rw [hd]; simp
       cases px:oF c with
       | false =>
         simp only [eA,bH]
         refine qA [.int .u8 0,.str [],.int .i64 0] rfl ?_
         exact fin 0 [] _ _ _ rfl fX (by rw [ht,if_neg wL,if_pos px])
       | true =>
         have dY:¬ (oF c=false):=by rw [px]; simp
         simp only [cI,bq]
         refine B5.go ?_
         simp only [Lj,al,bR,nE,dO]
         refine ⟨fun hk=>?_,fun hk=>⟨fun hl=>?_,fun hl=>?_⟩⟩
         . refine qA [.int .u8 3,.str (c::r),.int .i64 0] rfl ?_
           exact fin 3 (c::r) _ _ _ rfl fX (by rw [ht,if_neg wL,if_neg dY,if_pos hk])
         . refine qA [.int .u8 0,.str [],.int .i64 0] rfl ?_
           exact fin 0 [] _ _ _ rfl fX (by rw [ht,if_neg wL,if_neg dY,if_neg hk,if_pos (by omega)])
         . refine qA [.int .u8 1,.str (c::r),.int .i64 0] rfl ?_
           exact fin 1 (c::r) _ _ _ rfl fX (by rw [ht,if_neg wL,if_neg dY,if_neg hk,if_neg (by omega)])
end Go.Rip
namespace Go.Rip
open Go.Proofs Go.RowKit
theorem BN (u:aQ):(Lib.indexByte u 10=-1/\u.takeWhile (fun c=>c.toNat ≠ 10)=u)\/∃ k:Nat,Lib.indexByte u 10=k/\k < u.length/\u.takeWhile (fun c=>c.toNat ≠ 10)=u.take k:=by
 have o0:∀ c:UInt8,c.toNat=10 ↔ c=10:=fun c=>⟨fun h=>UInt8.toNat_inj.1 h,fun h=>by rw [h]; rfl⟩
 induction u with
 | nil=>left; exact ⟨rfl,rfl⟩
 | cons b u ih =>
   unfold Lib.indexByte
   by_cases hb:b=10
   . right
     refine ⟨0,by simp [hb],by simp,?_⟩
     rw [pK]
     simp [(o0 b).2 hb]
   . have eH:(b == 10)=false:=by simp [hb]
     have hn:(decide (b.toNat ≠ 10))=true:=by simp [o0,hb]
     rw [pK,hn]
     rcases ih with ⟨h1,h2⟩ | ⟨k,h1,h2,h3⟩
     . left; rw [h1,h2]; simp [eH]
     . right
       refine ⟨k+1,?_,by simp; omega,?_⟩
       . rw [h1,eH]
         have:((k:Int) == -1)=false:=by simp
         simp [this]
       . simp only [if_true,List.take_succ_cons,h3]
theorem Qo (u:aQ) (hu:u.length <= 100000):∃ y z,Pure K 148 [.str u,.str lR] (.aF [.str (u.takeWhile fun c=>c.toNat ≠ 10),y,z]):=by
 have go:∀ x y z,Pure K 212 [.str u,.str lR] (.aF [x,y,z])->Pure K 148 [.str u,.str lR] (.aF [x,y,z]):=fun x y z h U R hR=>by
  refine Od ?_
  refine h.go ?_
  simp only [bB,List.drop,bE]
  exact ak.mk hR
 have hi:=uS u 10
 rcases BN u with ⟨h1,h2⟩ | ⟨k,h1,h2,h3⟩
 . refine ⟨_,_,go _ (.str w_) (.bool false) fun U R hR=>?_⟩
   refine DX ?_
   refine hi.go ?_
   rw [h1]
   simp only [fO,al,show decide ((0:Int) <= -1)=false from rfl,bq]
   rw [h2] at hR
   exact ak.mk hR
 . refine ⟨_,_,go _ (.str (u.drop (k+1))) (.bool true) fun U R hR=>?_⟩
   refine DX ?_
   refine hi.go ?_
   rw [h1]
   have h0:decide ((0:Int) <= (k:Nat))=true:=by simp
   simp only [fO,al,h0,bH,qI,lD,iE,iD,aC,nE,KI,show (lR:List UInt8).length=1 from rfl,gb]
   refine ⟨⟨by omega,by omega,by omega⟩,bw (by omega) (by omega),⟨by omega,by omega,by omega⟩,?_⟩
   rw [h3] at hR
   refine ak.eq hR ?_
   have e1:((k:Int)+((1:Nat):Int)).toNat=k+1:=by omega
   simp [e1]
theorem UA {U:St} {R:cA->St->Prop} {b n:Nat} {c:j9} {l:List Tk} {t:Tk} {a:AV} (hb:U.box b=some [.vec n c (il (l++[t]))]) (hn:n=l.length+1) (hl:l.length <= 900) (h:R (.ret (.int .i64 t.s.length)) U):ae K 75 [a,.box b 0] U R:=by
 refine RX ?_
 subst hn
 unfold TQ
 simp only [fW hb,List.drop,bE,uV,al,EJ]
 refine ⟨bw (by omega) (by omega),?_⟩
 rw [CU]
 refine ⟨by omega,?_⟩
 have e:(((l.length+1:Nat):Int) - 1).toNat=l.length:=by omega
 rw [e]
 obtain ⟨r,hr⟩:=CO (L:=l++[t]) (i:=l.length) (t:=t) (by simp)
 rw [hr]
 simp only [cU,al,oy,ib,List.drop,oB,bE,nE]
 exact ak.mk h
def wk (l:List Tk):AV:=if l=[] then .aw else .vec l.length .jD (il l)
theorem zI (l l':List Tk):il (l++l')=il l++il l':=by simp [il]
structure TI (U:St) (b1 b2 b3 b4 b7 bs bd:Nat) (s:aQ) (l:List Tk):Prop where
 h1:U.box b1=some [.str s]
 h2:∃ x,U.box b2=some [x]
 h3:∃ x,U.box b3=some [x]
 h4:∃ x,U.box b4=some [x]
 h7:∃ v,U.box b7=some [v]/\Grow U v 51 3 l.length (il l)/\(l=[]->v=.aw)
 hs:U.box bs=some [.str s]
 hd:U.box bd=some [.func (.func 75) [] [.box b7 0]]
theorem dG {U ad:St} {b:Nat} (h:ad.live b=U.live b):ad.loop b=U.loop b:=by simp [St.loop,h]
theorem eT {U:St} {b:Nat} {L:eG}:(U.set b (.loop L)).loop b=some L:=by simp [St.loop,cR]
theorem tW {U:St} {b:Nat} {L:eG}:(U.new b (.loop L)).loop b=some L:=by simp [St.loop,kH]
theorem aX {U:St} {b b':Nat} {l:List AV} {L:eG} (h:U.box b=some l) (k:U.loop b'=some L):b ≠ b':=by
 rintro rfl
 unfold St.box at h; unfold St.loop at k
 split at k
 . rename_i e; simp [e] at h
 . cases k
theorem oz {U:St} {b b':Nat} {l:Tok} {L:eG} (h:U.tok b=some l) (k:U.loop b'=some L):b ≠ b':=by
 rintro rfl
 unfold St.tok at h; unfold St.loop at k
 split at k
 . rename_i e; simp [e] at h
 . cases k
theorem TI.qi {U:St} {b1 b2 b3 b4 b7 bs bd o:Nat} {s:aQ} {l:List Tk} (T:TI U b1 b2 b3 b4 b7 bs bd s l) {L L':eG} (hL:U.loop o=some L):TI (U.set o (.loop L')) b1 b2 b3 b4 b7 bs bd s l:=by
 have k:∀ {b:Nat} {x:List AV},U.box b=some x->(U.set o (.loop L')).box b=some x:=fun h=>by rw [aN (aX h hL)]; exact h
 obtain ⟨v,g1,g2,g3⟩:=T.h7
 refine ⟨k T.h1,T.h2.imp fun _ h=>k h,T.h3.imp fun _ h=>k h,T.h4.imp fun _ h=>k h,⟨v,k g1,?_,g3⟩,k T.hs,k T.hd⟩
 rcases g2 with g2 | ⟨τ,e,ht,hl⟩
 . exact .inl g2
 . exact .inr ⟨τ,e,by rw [fx (oz ht hL)]; exact ht,hl⟩
theorem TI.zc {U ad:St} {b1 b2 b3 b4 b7 bs bd:Nat} {s:aQ} {l:List Tk} (T:TI U b1 b2 b3 b4 b7 bs bd s l) (e:cN U ad):TI ad b1 b2 b3 b4 b7 bs bd s l:=by
 obtain ⟨v,g1,g2,g3⟩:=T.h7
 refine ⟨e.aS T.h1,T.h2.imp fun _ h=>e.aS h,T.h3.imp fun _ h=>e.aS h,T.h4.imp fun _ h=>e.aS h,⟨v,e.aS g1,?_,g3⟩,e.aS T.hs,e.aS T.hd⟩
 rcases g2 with g2 | ⟨τ,e1,ht,hl⟩
 . exact .inl g2
 . exact .inr ⟨τ,e1,e.tok ht,hl⟩
theorem Pure.YQ {f:Nat} {args:List AV} {x:AV} (hargs:bY args=true) (hx:closed x=true)
 (h:∀ R:cA->St->Prop,(∀ v ad,resolve 5 ad v=x->R (.ret v) ad)->ae K f args (bC ⟨.e,0⟩) R):Pure K f args x :=
 Pure.yO ze hargs hx 5 (h _ fun v ad e=>⟨v,rfl,e⟩)
theorem HY (n:Nat) (U:St) (l:List Tk):(il l).map (resolve (n+1) U)=il l:=by
 induction l with
 | nil=>rfl
 | cons t l ih =>
   show ((oy t++il l).map (resolve (n+1) U))=oy t++il l
   rw [List.map_append,ih]; rfl
theorem Jv (l:List Tk):bY (il l)=true:=by
 induction l with
 | nil=>rfl
 | cons t l ih=>show bY (oy t++il l)=true; simp [oy,bY,closed,ih]
theorem Hu (l:List Tk):closed (wk l)=true:=by
 unfold wk; split
 . rfl
 . exact Jv l
theorem GJ {U ad:St} {v:AV} {l:List Tk} (n:Nat) (h:Grow U v 51 3 l.length (il l)) (h0:l=[]->v=.aw):resolve (n+2) ad v=wk l:=by
 unfold wk
 split
 . rename_i e; rw [h0 e]; rfl
 . rename_i e
   rcases h with ⟨h1,_,_⟩ | ⟨τ,rfl,_,_⟩
   . exact absurd (qS.1 h1) e
   . show AV.vec l.length .jD ((il l).map (resolve (n+1) ad))=_
     rw [HY]
def yq:EN->AV
 | .ok l=>.aF [wk l,.int .i64 0,.int .i64 0]
 | .bad p e=>.aF [.aw,.int .i64 p,.int .i64 e]
theorem cN.loop {U ad:St} {b:Nat} {L:eG} (h:cN U ad) (k:U.loop b=some L):ad.loop b=some L:=by
 cases e:U.live b with
 | none=>simp [St.loop,e] at k
 | some x=>rw [dG ((h b x e).trans e.symm)]; exact k
theorem lA {U ad:St} {v:AV} {e sz n:Nat} {l:List AV} (g:Grow U v e sz n l) (e1:∀ b x,(∀ n l,v ≠ .vec n (.own b) l)->U.live b=some x->ad.live b=some x) :
 (∀ {b:Nat} {x:List AV},U.box b=some x->ad.box b=some x)/\(∀ {b:Nat} {L:eG},U.loop b=some L->ad.loop b=some L):=by
 refine ⟨fun {b x} h=>?_,fun {b L} h=>?_⟩
 . cases e:U.live b with
   | none=>exact absurd e (bG h)
   | some y =>
     have:=e1 b y (fun n' l' hv=>by
      rcases g with ⟨_,_,g⟩ | ⟨τ,g,ht,_⟩
      . rw [g] at hv; cases hv
      . rw [g] at hv; cases hv; exact dL h ht rfl) e
     rw [dP (this.trans e.symm)]; exact h
 . cases e:U.live b with
   | none=>simp [St.loop,e] at h
   | some y =>
     have:=e1 b y (fun n' l' hv=>by
      rcases g with ⟨_,_,g⟩ | ⟨τ,g,ht,_⟩
      . rw [g] at hv; cases hv
      . rw [g] at hv; cases hv; exact oz ht h rfl) e
     rw [dG (this.trans e.symm)]; exact h
theorem Zy {U:St} {b2 b3 b4:Nat} {lv:AV} {p e:Int} {K':AV->St->Prop} {Kp:AV->St->Prop} (h2:∃ x,U.box b2=some [x]) (h3:∃ x,U.box b3=some [x]) (h4:∃ x,U.box b4=some [x]) (IS:b2 ≠ b3) (Br:b2 ≠ b4) (DK:b3 ≠ b4) (hl:lv.cQ=true/\au lv=[lv])
 (h:∀ ic,ic.box b2=some [lv]->ic.box b3=some [.int .i64 p]->ic.box b4=some [.int .i64 e]->(∀ b,b ≠ b2->b ≠ b3->b ≠ b4->ic.live b=U.live b)->K' (.aF []) ic) :
 (aJ (some (false,1)) (.box b2 0) lv U).wp K U (fun _ U=>(aJ (some (false,1)) (.box b3 0) (.int .i64 p) U).wp K U (fun _ U=>(aJ (some (false,1)) (.box b4 0) (.int .i64 e) U).wp K U K' Kp) Kp) Kp:=by
 obtain ⟨x2,h2⟩:=h2
 obtain ⟨x3,h3⟩:=h3
 obtain ⟨x4,h4⟩:=h4
 rw [cX h2]
 refine ⟨⟨hl.1,by rw [hl.2]; rfl,by simp⟩,?_⟩
 rw [cX (show (U.set b2 _).box b3=some [x3] by rw [aN IS.symm]; exact h3)]
 refine ⟨⟨rfl,rfl,by simp⟩,?_⟩
 rw [cX (show ((U.set b2 _).set b3 _).box b4=some [x4] by rw [aN DK.symm,aN Br.symm]; exact h4)]
 refine ⟨⟨rfl,rfl,by simp⟩,h _ ?_ ?_ ?_ fun b m2 m3 m4=>?_⟩
 . rw [aN Br,aN IS,aW,hl.2]; rfl
 . rw [aN DK,aW]; rfl
 . rw [aW]; rfl
 . rw [cR,if_neg m4,cR,if_neg m3,cR,if_neg m2]
theorem H5 (s:aQ) (hs:s.length <= 3000):Pure K 33 [.str s] (yq (pE s)):=by
 refine Pure.YQ rfl (by cases pE s with | ok l=>simp [yq,closed,bY,Hu] | bad p e=>rfl) fun R hR=>?_
 refine RN ?_
 unfold TF
 rw [er rfl]
 intro b1 fX
 rw [cS]
 intro b2 fY
 rw [cS]
 intro b3 jn
 rw [cS]
 intro b4 gu
 have n12:b1 ≠ b2:=fY.bK aK
 have g1:=aK (U:=bC ⟨.e,0⟩) (b:=b1) (l:=au (.str s))
 generalize Q4:(bC _).new b1 _=aP at *
 have g1':=(a7 fY (x:=.box [.aw])).aS g1
 have g2:=aK (U:=aP) (b:=b2) (l:=[.aw])
 generalize Q5:aP.new b2 _=aZ at *
 have Xq:=(a7 jn (x:=.box [.int .i64 0])).aS g1'
 have Xs:=(a7 jn (x:=.box [.int .i64 0])).aS g2
 have g3:=aK (U:=aZ) (b:=b3) (l:=[.int .i64 0])
 have IS:b2 ≠ b3:=jn.bK g2
 generalize adx:aZ.new b3 _=bZ at *
 have k1:=(a7 gu (x:=.box [.int .i64 0])).aS Xq
 have k2:=(a7 gu (x:=.box [.int .i64 0])).aS Xs
 have k3:=(a7 gu (x:=.box [.int .i64 0])).aS g3
 have k4:=aK (U:=bZ) (b:=b4) (l:=[.int .i64 0])
 have Br:b2 ≠ b4:=gu.bK Xs
 have DK:b3 ≠ b4:=gu.bK g3
 generalize F4:bZ.new b4 _=cC at *
 clear Q4 Q5 adx F4 g1 g1' Xq g2 Xs g3 fX fY jn gu
 replace k1:cC.box b1=some [.str s]:=k1
 have fin:∀ (ad:St) (lv:AV) (p e:Int),ad.box b2=some [lv]->ad.box b3=some [.int .i64 p]->ad.box b4=some [.int .i64 e]->(∀ ic,resolve 5 ic (.aF [lv,.int .i64 p,.int .i64 e])=yq (pE s)) ->
  br (some (false,1)) (.box b2 0) ad fun r0=>br (some (false,1)) (.box b3 0) ad fun r1=>br (some (false,1)) (.box b4 0) ad fun r2=>ak R (.aF [r0,r1,r2]) ad:=by
  intro ad lv p e m2 m3 m4 hres
  rw [qh m2 (dJ),qh m3 (dJ),qh m4 (dJ)]
  exact ak.mk (hR _ _ (hres _))
 simp only [fW k1,C4,List.drop,bE]
 refine (Qn s).go ?_
 simp only [bB,List.drop,bE,c6,al]
 have jc:pE s=if (tO s).2 ≠ 0 then .bad (tO s).1 (tO s).2 else mB s.length s 0 []:=rfl
 by_cases he:(tO s).2=0
 . simp only [he,da,cI,bq]
   rw [if_neg (by simp [he])] at jc
   rw [cS]
   intro b7 kN
   have n71:=(kN.bK k1).symm
   have n72:=(kN.bK k2).symm
   have n73:=(kN.bK k3).symm
   have n74:=(kN.bK k4).symm
   have e5:=a7 kN (x:=.box [.aw])
   have m7:=aK (U:=cC) (b:=b7) (l:=[.aw])
   generalize ady:cC.new b7 _=dm at *
   rw [fW (e5.aS k1),dJ,bE]
   refine RY ?_
   unfold TR
   rw [er rfl]
   intro bs Mf
   have n7s:=Mf.bK m7
   have e6:=a7 Mf (x:=.box (au (.str s)))
   have ms:=aK (U:=dm) (b:=bs) (l:=au (.str s))
   generalize adz:dm.new bs _=mi at *
   rw [er rfl]
   intro bd XI
   have n7d:=XI.bK (e6.aS m7)
   have e7:=a7 XI (x:=.box (au (.func (.func 75) [] [.box b7 0])))
   have md:=aK (U:=mi) (b:=bd) (l:=au (.func (.func 75) [] [.box b7 0]))
   generalize adA:mi.new bd _=iw at *
   refine ak.mk ?_
   refine ⟨by kernel_rfl,fun o L ho Fw Md Y=>?_⟩
   have LK:=e5.trans (e6.trans e7)
   have T7:TI iw b1 b2 b3 b4 b7 bs bd s []:=⟨LK.aS k1,⟨_,LK.aS k2⟩,⟨_,LK.aS k3⟩,⟨_,LK.aS k4⟩,⟨_,(e6.trans e7).aS m7,.inl ⟨rfl,rfl,rfl⟩,fun _=>rfl⟩,e7.aS ms,md⟩
   have T8:=T7.zc (a7 ho (x:=.loop L))
   have L8:=tW (U:=iw) (b:=o) (L:=L)
   generalize adB:iw.new o _=tJ at *
   clear ady adz adA adB T7 LK e5 e6 e7 m7 ms md ho XI Mf kN k1 k2 k3 k4
   refine Oc ?_
   unfold Ob
   refine ⟨fun m v0 v1 v2 v4 ad=>∃ f p l,m=s.length - p/\v0=.pX o/\v1=.box bs 0/\v2=.box bd 0/\v4=.int .i64 (p:Nat)/\p <= s.length/\s.length - p <= f/\l.length <= 900/\mB f s p l=pE s/\TI ad b1 b2 b3 b4 b7 bs bd s l/\∃ L1,ad.loop o=some L1/\L1.st .ready none=L/\L1.state=.ready/\L1.fe=none,
    ⟨_,s.length,0,[],rfl,rfl,rfl,rfl,rfl,by omega,by omega,by simp,jc.symm,T8,L,L8,by cases L; simp_all [eG.st],Fw,Md⟩,?_⟩
   clear T8 L8 jc he
   rintro m v0 v1 v2 v4 qL ⟨f,p,l,rfl,rfl,rfl,rfl,rfl,hp,hf,SR,jc,T,L1,hU,fg,zp,zn⟩
   rw [fW T.hs,dJ,bE]
   simp only [nE,al,bP,bR]
   refine ⟨fun aO=>?_,fun jo=>?_⟩
   . have aO:p < s.length:=by omega
     have AY:s.drop p=s[p]::s.drop (p+1):=gl aO
     cases f with
     | zero=>omega
     | succ f =>
     simp only [mB] at jc
     rw [AY] at jc
     simp only at jc
     rw [fW T.hs,dJ,bE,yY]
     refine ⟨by omega,?_⟩
     rw [gb,getD_at aO]
     intro jj zk
     have c32:((s[p].toNat:Int)=32)=(s[p].toNat=32):=by simp; omega
     have c10:((s[p].toNat:Int)=10)=(s[p].toNat=10):=by simp; omega
     have acH:((s[p].toNat:Int)=126)=(s[p].toNat=126):=by simp; omega
     have blank:s[p].toNat=32\/s[p].toNat=10->jj (.pX o) (.box bs 0) (.box bd 0) (.int .i64 (p:Nat)) (.int .u8 s[p].toNat) (.bool true) qL:=fun h=>by
      refine zk _ _ _ _ _ _ _ ?_
      rw [if_pos h] at jc
      simp only [bH,dr]
      exact ⟨bw (by omega) (by omega),_,by omega,f,p+1,l,rfl,rfl,rfl,rfl,by simp,by omega,by omega,SR,jc,T,L1,hU,fg,zp,zn⟩
     have other:¬ (s[p].toNat=32\/s[p].toNat=10)->jj (.pX o) (.box bs 0) (.box bd 0) (.int .i64 (p:Nat)) (.int .u8 s[p].toNat) (.bool false) qL:=fun h=>by
      refine zk _ _ _ _ _ _ _ ?_
      rw [if_neg h] at jc
      simp only [bq,bj,al,bR,acH]
      have after:∀ {ic:St} {L2:eG},L2={ L1 with state:=.ready,fe:=none }->L2.st .ready none=L/\L2.state=.ready/\L2.fe=none:=fun h=>by
       subst h; exact ⟨by rw [<- fg]; rfl,rfl,rfl⟩
      refine ⟨fun JQ=>?_,fun JQ=>?_⟩
      . rw [if_pos JQ] at jc
        rw [fW T.hs,dJ,bE]
        have hdn:((s.take s.length).drop p)=s[p]::s.drop (p+1):=by rw [sE,AY]
        simp only [qI,lD,iE,wp_cond,al,gb,hdn]
        refine ⟨⟨by omega,by omega,by omega⟩,?_⟩
        obtain ⟨y,z,acX⟩:=Qo (s[p]::s.drop (p+1)) (by rw [<- AY]; simp; omega)
        refine acX.go ?_
        have hlen:((s[p]::s.drop (p+1)).takeWhile fun c=>c.toNat ≠ 10).length <= s.length - p:=by
         rw [<- AY]; exact Nat.le_trans (uc _).length_le (by simp)
        have bT:1 <= ((s[p]::s.drop (p+1)).takeWhile fun c=>c.toNat ≠ 10).length/\((s[p]::s.drop (p+1)).takeWhile fun c=>c.toNat ≠ 10) ≠ []:=by
         rw [pK]; simp [JQ]
        generalize ((s[p]::s.drop (p+1)).takeWhile fun c=>c.toNat ≠ 10)=nt at *
        simp only [bB,List.drop,bE]
        simp only [gr,wA]
        refine Y _ _ _ L1 rfl hU fg ?_
        refine ⟨L1,hU,zp,?_⟩
        have Yh:¬ nt=w_:=bT.2
        simp only [qn,al,Yh,dN,eA,bH]
        refine ⟨_,eT,?_⟩
        simp only [bu,dR,al,cI,bq,nE,dr]
        refine ⟨bw (by omega) (by omega),_,?_,f,p+nt.length,l,rfl,rfl,rfl,rfl,by simp,by omega,by omega,SR,jc,(T.qi hU).qi eT,_,eT,?_⟩
        . omega
        . exact ⟨by rw [<- fg]; rfl,rfl,rfl⟩
      . rw [if_neg JQ] at jc
        simp only [gr,wA]
        refine Y _ _ _ L1 rfl hU fg ?_
        refine ⟨L1,hU,zp,?_⟩
        have T2:=T.qi (L':={ L1 with state:=.busy }) hU
        have L2:(qL.set o (.loop { L1 with state:=.busy })).loop o=some { L1 with state:=.busy }:=eT
        generalize abu:qL.set o (.loop { L1 with state:=.busy })=wC at *
        simp only [qn,al,da,cI,bq]
        rw [fW T2.h1,dJ,bE]
        have hdn:((s.take s.length).drop p)=s[p]::s.drop (p+1):=by rw [sE,AY]
        simp only [qI,lD,iE,wp_cond,al,gb,hdn]
        refine ⟨⟨by omega,by omega,by omega⟩,?_⟩
        refine (AO (s[p]::s.drop (p+1)) (by rw [<- AY]; simp; omega)).go ?_
        cases py:jh (s[p]::s.drop (p+1)) with
        | mk e kt =>
        obtain ⟨k,tx⟩:=kt
        rw [py] at jc
        simp only at jc
        simp only [G3,bB,List.drop,bE]
        rw [cS]
        intro iV tS
        have g11:(wC.new iV (.box [AV.int .u8 0,AV.str [],AV.int .i64 0])).box iV=some [AV.int .u8 0,AV.str [],AV.int .i64 0]:=aK
        rw [cX g11]
        refine ⟨⟨rfl,rfl,by simp⟩,?_⟩
        have VI:=((cN.refl wC).new tS (x:=.box [AV.int .u8 0,AV.str [],AV.int .i64 0])).set (x:=.box (aB [AV.int .u8 0,AV.str [],AV.int .i64 0] 0 (au (.agg [.int .u8 (k:Nat),.str tx,.int .i64 0])))) tS.1
        have m11:((wC.new iV (.box [AV.int .u8 0,AV.str [],AV.int .i64 0])).set iV (.box (aB [AV.int .u8 0,AV.str [],AV.int .i64 0] 0 (au (.agg [.int .u8 (k:Nat),.str tx,.int .i64 0]))))).box iV=some [.int .u8 (k:Nat),.str tx,.int .i64 0]:=by rw [aW]; rfl
        have n117:b7 ≠ iV:=tS.bK (T2.h7.choose_spec.1)
        generalize (wC.new iV (.box [AV.int .u8 0,AV.str [],AV.int .i64 0])).set iV (.box (aB [AV.int .u8 0,AV.str [],AV.int .i64 0] 0 (au (.agg [.int .u8 (k:Nat),.str tx,.int .i64 0]))))=wD at *
        have T3:=T2.zc VI
        have L3:=VI.loop L2
        have aba:∀ (b:Nat) (x:List AV),wC.box b=some x->b ≠ iV:=fun b x h=>tS.bK h
        clear VI g11 tS abu
        intro j hj
        obtain ⟨v,q1,q2,q3⟩:=T3.h7
        have cont:∀ e':Int,(e' ≠ 0->pE s=.bad p e')->(e'=0->l.length < 900/\0 < tx.length/\mB f s (p+tx.length) (l++[⟨k,tx,p⟩])=pE s)->(e'=0->e=0)->j (.box b2 0) (.box b3 0) (.box b4 0) (.box b7 0) (.int .i64 (p:Nat)) (.box iV 0) (.int .i64 e') wD:=by
         intro e' acU abh XW
         refine hj _ _ _ _ _ _ _ _ ?_
         by_cases kO:e'=0
         . obtain ⟨aeA,iX,Ya⟩:=abh kO
           simp only [kO,c6,al,da,cI,bq,bg,cV]
           rw [cX m11]
           refine ⟨⟨rfl,rfl,by simp⟩,?_⟩
           have kp:∀ {b:Nat} {x:List AV},b ≠ iV->wD.box b=some x->(wD.set iV (.box (aB [.int .u8 (k:Nat),.str tx,.int .i64 0] 2 (au (.int .i64 (p:Nat)))))).box b=some x:=fun h1 h2=>by rw [aN h1]; exact h2
           rw [fW (kp n117 q1),dJ,bE]
           rw [pQ aW]
           refine ⟨by simp [aB],?_⟩
           have YW:Grow (wD.set iV (.box (aB [.int .u8 (k:Nat),.str tx,.int .i64 0] 2 (au (.int .i64 (p:Nat)))))) v 51 3 l.length (il l):=by
            rcases q2 with q2 | ⟨τ,r1,r2,r3⟩
            . exact .inl q2
            . exact .inr ⟨τ,r1,by rw [fx (dL m11 r2).symm]; exact r2,r3⟩
           have xp:∀ {b:Nat} {x:List AV},wD.box b=some x->b ≠ iV->(wD.set iV (.box (aB [.int .u8 (k:Nat),.str tx,.int .i64 0] 2 (au (.int .i64 (p:Nat)))))).box b=some x:=fun h1 h2=>kp h2 h1
           have l11:(wD.set iV (.box (aB [.int .u8 (k:Nat),.str tx,.int .i64 0] 2 (au (.int .i64 (p:Nat)))))).loop o=some { L1 with state:=.busy }:=by
            rw [dG]; exact L3
            rw [cR,if_neg (aX m11 L3).symm]
           have Fy:(List.take 3 (List.drop 0 (aB [.int .u8 (k:Nat),.str tx,.int .i64 0] 2 (au (.int .i64 (p:Nat))))))=oy ⟨k,tx,p⟩:=by simp [aB,oy]
           rw [Fy]
           generalize wD.set iV (.box (aB [.int .u8 (k:Nat),.str tx,.int .i64 0] 2 (au (.int .i64 (p:Nat)))))=aeF at *
           rw [fN]
           refine ⟨by omega,?_⟩
           rw [ek (o:=0) (s:=3) rfl]
           refine ⟨⟨rfl,rfl,by simp [bF]⟩,?_⟩
           rw [gI]
           refine ⟨rfl,?_⟩
           have Tw:=xp q1 n117
           refine EF (m:=1) (l2:=oy ⟨k,tx,p⟩) YW rfl rfl (by omega) (by omega) (fun h=>q3 (qS.1 h)) fun CW v' g1 g2 g3=>?_
           obtain ⟨kb,kl⟩:=lA YW g2
           have s0:v'.cQ=true/\au v'=[v']:=by
            rcases g1 with ⟨_,_,rfl⟩ | ⟨τ,rfl,_,_⟩ <;> exact ⟨rfl,rfl⟩
           rw [cX (kb Tw)]
           refine ⟨⟨s0.1,by rw [s0.2]; rfl,by simp⟩,?_⟩
           have kk:∀ {b:Nat} {x:List AV},b7 ≠ b->CW.box b=some x->(CW.set b7 (.box (aB [v] 0 (au v')))).box b=some x:=fun h1 h2=>by rw [aN h1.symm]; exact h2
           have lo:(CW.set b7 (.box (aB [v] 0 (au v')))).loop o=some { L1 with state:=.busy }:=by
            rw [dG]; exact kl l11
            rw [cR,if_neg (aX (kb Tw) (kl l11)).symm]
           have B9:∀ {b:Nat} {x:List AV},wC.box b=some x->b ≠ iV:=fun h=>aba _ _ h
           have T5:TI (CW.set b7 (.box (aB [v] 0 (au v')))) b1 b2 b3 b4 b7 bs bd s (l++[⟨k,tx,p⟩]):=by
            refine ⟨kk n71 (kb (xp T3.h1 (B9 T2.h1))),?_,?_,?_,⟨v',by rw [aW,s0.2]; rfl,?_,fun h=>by simp at h⟩,kk n7s (kb (xp T3.hs (B9 T2.hs))),kk n7d (kb (xp T3.hd (B9 T2.hd)))⟩
            . obtain ⟨x,hx⟩:=T2.h2; obtain ⟨y,hy⟩:=T3.h2; exact ⟨y,kk n72 (kb (xp hy (B9 hx)))⟩
            . obtain ⟨x,hx⟩:=T2.h3; obtain ⟨y,hy⟩:=T3.h3; exact ⟨y,kk n73 (kb (xp hy (B9 hx)))⟩
            . obtain ⟨x,hx⟩:=T2.h4; obtain ⟨y,hy⟩:=T3.h4; exact ⟨y,kk n74 (kb (xp hy (B9 hx)))⟩
            . have el:(l++[(⟨k,tx,p⟩:Tk)]).length=l.length+1:=by simp
              rw [el,zI]
              rcases g1 with ⟨h0,_⟩ | ⟨τ,r1,r2,r3⟩
              . omega
              . exact .inr ⟨τ,r1,by rw [fx (dL (kb Tw) r2).symm]; exact r2,r3⟩
           have vC:∃ c,v'=.vec (l.length+1) c (il (l++[⟨k,tx,p⟩])):=by
            rw [zI]
            rcases g1 with ⟨h0,_⟩ | ⟨τ,r1,_,_⟩
            . omega
            . exact ⟨_,r1⟩
           have SF:(CW.set b7 (.box (aB [v] 0 (au v')))).box b7=some [v']:=by rw [aW,s0.2]; rfl
           generalize CW.set b7 (.box (aB [v] 0 (au v')))=aed at *
           refine ⟨_,lo,?_⟩
           have T6:=T5.qi (L':={ L1 with state:=.ready,fe:=none }) lo
           obtain ⟨c,hc⟩:=vC
           subst hc
           have acQ:(aed.set o (.loop { L1 with state:=.ready,fe:=none })).box b7=some [.vec (l.length+1) c (il (l++[⟨k,tx,p⟩]))]:=by rw [aN (aX SF lo)]; exact SF
           simp only [bu,dR,al,cI,bq]
           rw [fW T6.hd,dJ,bE]
           simp only [show dU K.P 75=true by kernel_rfl,if_true,jW,kK,ib]
           refine UA acQ rfl SR ?_
           simp only [bu,dr]
           have k9:p+tx.length <= s.length:=by
            have:=(CP (s:=s[p]::s.drop (p+1)) (k:=k) (t:=tx) (by rw [py,XW kO])).2.length_le
            rw [<- AY] at this
            simp at this
            omega
           refine ⟨bw (by omega) (by omega),_,?_,f,p+tx.length,l++[⟨k,tx,p⟩],rfl,rfl,rfl,rfl,by simp,k9,by omega,by simp; omega,Ya,T6,_,eT,by rw [<- fg]; rfl,rfl,rfl⟩
           omega
         . simp only [kO,c6,al,dN,eA,bH]
           refine Zy T3.h2 T3.h3 T3.h4 IS Br DK ⟨rfl,rfl⟩ fun ic m2 m3 m4 mo=>?_
           have ob:∀ {b:Nat},(∃ x,wD.box b=some [x])->o ≠ b:=fun ⟨x,h⟩=>(aX h L3).symm
           have L4:ic.loop o=some { L1 with state:=.busy }:=by rw [dG (mo o (ob T3.h2) (ob T3.h3) (ob T3.h4))]; exact L3
           refine ⟨_,L4,?_⟩
           simp only [bu,dR,al,eA,bH]
           refine ak.mk ⟨_,eT,by simp,?_⟩
           have kp:∀ {b:Nat} {x:List AV},o ≠ b->ic.box b=some x->((ic.set o (.loop { L1 with state:=.done,fe:=some .ret })).del o).box b=some x:=fun h1 h2=>by rw [eM h1.symm,aN h1.symm]; exact h2
           refine fin _ _ _ _ (kp (ob T3.h2) m2) (kp (ob T3.h3) m3) (kp (ob T3.h4) m4) fun bZ=>?_
           rw [acU kO]; rfl
        have hlen:cj (some false) v=.val (.int .i64 l.length):=by
         rcases q2 with ⟨h0,_,rfl⟩ | ⟨τ,rfl,_,_⟩
         . rw [h0]; rfl
         . rfl
        simp only [bj,al,aU,aI]
        by_cases sY:e=0
        . subst sY
          simp only [da,gm,bQ,pI q1,dJ,fi,lr,hlen,aC,bj,aL,if_true,al,bR]
          rw [if_neg (by simp)] at jc
          refine ⟨fun acR=>?_,fun acR=>?_⟩
          . rw [if_pos (by omega)] at jc
            exact cont 5 (fun _=>jc.symm) (fun h=>by omega) (fun h=>by omega)
          . rw [if_neg (by omega)] at jc
            have iX:=(CP py).1.1
            exact cont 0 (fun h=>absurd rfl h) (fun _=>⟨by omega,List.length_pos_iff.2 iX,jc⟩) (fun _=>rfl)
        . simp only [sY,dN,show (false == true)=false from rfl,bV,aL,bJ,if_false,al,bq]
          rw [if_pos sY] at jc
          exact cont e (fun _=>jc.symm) (fun h=>absurd h sY) (fun h=>h)
     simp only [bj,al,bR,c32,c10]
     refine ⟨fun h=>?_,fun h=>?_⟩
     . simp only [h,da]; rw [h] at blank; exact blank (.inl rfl)
     . by_cases o0:s[p].toNat=10
       . simp only [o0,da]; rw [o0] at blank; exact blank (.inr rfl)
       . simp only [o0,dN]; exact other (fun h1=>h1.elim h o0)
   . have hd0:s.drop p=[]:=List.drop_eq_nil_of_le (by omega)
     have Ya:pE s=.ok l:=by
      rw [<- jc]
      cases f with
      | zero=>rfl
      | succ f=>simp only [mB]; rw [hd0]
     refine ak.mk ⟨L1,hU,by rw [zp]; simp,?_⟩
     rw [zn]
     obtain ⟨v,g1,g2,g3⟩:=T.h7
     have dl:∀ {b:Nat} {x:List AV},qL.box b=some x->(qL.del o).box b=some x:=fun h=>by rw [eM (aX h hU)]; exact h
     have hv:v.cQ=true/\au v=[v]:=by
      rcases g2 with ⟨_,_,rfl⟩ | ⟨τ,rfl,_,_⟩ <;> exact ⟨rfl,rfl⟩
     show (ah (some (false,1)) (.box b7 0) (qL.del o)).wp K (qL.del o) _ _
     rw [fW (dl g1),dJ,bE]
     refine Zy (T.h2.imp fun _ h=>dl h) (T.h3.imp fun _ h=>dl h) (T.h4.imp fun _ h=>dl h) IS Br DK hv fun ic m2 m3 m4 _=>?_
     refine fin ic _ _ _ m2 m3 m4 fun bZ=>?_
     rw [Ya]
     show AV.aF [resolve 4 bZ v,.int .i64 0,.int .i64 0]=_
     rw [GJ 2 g2 g3]
     rfl
 . simp only [he,dN,eA,bH]
   rw [if_pos he] at jc
   refine Zy ⟨_,k2⟩ ⟨_,k3⟩ ⟨_,k4⟩ IS Br DK ⟨rfl,rfl⟩ fun dm m2 m3 m4 _=>?_
   exact fin dm _ _ _ m2 m3 m4 fun ic=>by rw [jc]; rfl
end Go.Rip
