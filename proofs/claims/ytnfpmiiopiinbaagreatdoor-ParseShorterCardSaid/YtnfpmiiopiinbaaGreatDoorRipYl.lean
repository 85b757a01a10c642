/- Lemmas for the proof: no conditions. -/
import Derived.Test.YtnfpmiiopiinbaaGreatDoorRipZz
import Derived.Test.YtnfpmiiopiinbaaGreatDoorRipYi
set_option linter.unusedVariables false
set_option linter.unusedSimpArgs false
set_option linter.loopingSimpArgs false
set_option linter.unusedSectionVars false
namespace Go.Rip
inductive oz:List Tx->List Tx->Prop where
 | nil:oz [] []
 | cons {a b:List Tx} (x:Tx) (h:oz a b):oz (x::a) (x::b)
 | drop {a b:List Tx} (x:Tx) (h:oz a b):oz a (x::b)
 | OW {a b:List Tx} (x:Tx) (hx:x.1 ≠ 4) (h:oz a b):oz (az pb::a) (az gy::x::b)
 | OK {a b:List Tx} (x:Tx) (hx:x.1 ≠ 4) (h:oz a b):oz (az kT::a) (az gy::x::b)
theorem oz.refl:∀ l:List Tx,oz l l
 | []=>.nil
 | x::l=>.cons x (oz.refl l)
theorem oz.app {a b a' b':List Tx} (h:oz a b) (k:oz a' b'):oz (a++a') (b++b'):=by
 induction h with
 | nil=>exact k
 | cons x _ ih=>exact .cons x ih
 | drop x _ ih=>exact .drop x ih
 | OW x hx _ ih=>exact .OW x hx ih
 | OK x hx _ ih=>exact .OK x hx ih
theorem oz.len {a b:List Tx} (h:oz a b):a.length <= b.length:=by
 induction h with
 | nil=>exact bT _
 | cons x _ ih=>simp only [fm]; omega
 | drop x _ ih=>simp only [fm]; omega
 | OW x _ _ ih=>simp only [fm]; omega
 | OK x _ _ ih=>simp only [fm]; omega
def tl (l:List Tx):Nat:=(cL l).length
theorem jb (a b:Tx) (l:List Tx):tl (a::b::l)=a.2.length+(if fU a b then 1 else 0)+tl (b::l):=by
 unfold tl
 rw [ou,cM,cM]
 split <;> simp
theorem xl (a:Tx):tl [a]=a.2.length:=rfl
theorem Ak:tl []=0:=rfl
theorem uN (a:Tx) (l:List Tx):a.2.length+tl l <= tl (a::l)/\tl (a::l) <= a.2.length+1+tl l:=by
 cases l with
 | nil=>rw [xl,Ak]; omega
 | cons b l=>rw [jb]; split <;> omega
theorem acf (p x:Tx) (hx:x.2 ≠ []) (l:List Tx):tl (p::l) <= tl (p::x::l):=by
 have oT:0 < x.2.length:=List.length_pos_iff.2 hx
 have h1:=(uN p l).2
 have h2:=(uN x l).1
 rw [jb]
 omega
theorem XV {x y q:Tx} (hx:x.1 ≠ 4) (hy:y.1 ≠ 4) (h1:x.2 ≠ cW) (h2:y.2 ≠ cW):fU x q=fU y q:=by
 have e1:(x.1 != 4)=true:=by simp [hx]
 have e2:(y.1 != 4)=true:=by simp [hy]
 have e3:(x.2 == cW)=false:=by simp [h1]
 have e4:(y.2 == cW)=false:=by simp [h2]
 unfold fU
 rw [e1,e2,e3,e4]
theorem Mi {x y:Tx} (hx:x.1 ≠ 4) (hy:y.1 ≠ 4) (h1:x.2 ≠ cW) (h2:y.2 ≠ cW) (l:List Tx):tl (x::l)+y.2.length=tl (y::l)+x.2.length:=by
 cases l with
 | nil=>rw [xl,xl]; omega
 | cons q l=>rw [jb,jb,XV hx hy h1 h2]; omega
theorem Hr {s:aG} (h:s.all c8=true):s ≠ cW:=by rintro rfl; exact absurd h (by decide)
theorem oz.tl {a b:List Tx} (h:oz a b) (hb:∀ x ∈ b,mH x):Rip.tl a <= Rip.tl b/\∀ p:Tx,Rip.tl (p::a) <= Rip.tl (p::b):=by
 induction h with
 | nil=>exact ⟨bT _,fun p=>bT _⟩
 | @cons a b x h ih =>
   obtain ⟨i1,i2⟩:=ih fun y hy=>hb y (by simp [hy])
   refine ⟨i2 x,fun p=>?_⟩
   have:=i2 x
   rw [jb,jb]; omega
 | @drop a b x h ih =>
   obtain ⟨i1,i2⟩:=ih fun y hy=>hb y (by simp [hy])
   have hx:=(hb x (by simp)).1
   refine ⟨?_,fun p=>Nat.le_trans (i2 p) (acf p x hx b)⟩
   have:=(uN x b).1
   omega
 | @OW a b x hx h ih =>
   obtain ⟨i1,i2⟩:=ih fun y hy=>hb y (by simp [hy])
   have FA:=hb x (by simp)
   obtain ⟨_,_,_,_,_,_,_,_,_,hn⟩:=uP FA
   have oT:0 < x.2.length:=List.length_pos_iff.2 FA.1
   have hsw:=Mi (x:=az pb) (y:=x) (by decide) hx (by decide) (Hr (hn hx).1) a
   have hi:=i2 x
   have e1:(az pb).2.length=3:=rfl
   have e2:(az gy).2.length=3:=rfl
   refine ⟨?_,fun p=>?_⟩
   . rw [jb]; omega
   . have ha:fU p (az pb)=fU p (az gy):=by unfold fU; rfl
     rw [jb,jb,jb,ha]
     omega
 | @OK a b x hx h ih =>
   obtain ⟨i1,i2⟩:=ih fun y hy=>hb y (by simp [hy])
   have FA:=hb x (by simp)
   obtain ⟨_,_,_,_,_,_,_,_,_,hn⟩:=uP FA
   have oT:0 < x.2.length:=List.length_pos_iff.2 FA.1
   have hsw:=Mi (x:=az kT) (y:=x) (by decide) hx (by decide) (Hr (hn hx).1) a
   have hi:=i2 x
   have e1:(az kT).2.length=4:=rfl
   have e2:(az gy).2.length=3:=rfl
   have zr:fU (az gy) x=true:=by
    unfold fU
    have e3:(x.1 != 4)=true:=by simp [hx]
    rw [e3]; rfl
   refine ⟨?_,fun p=>?_⟩
   . rw [jb,zr,if_pos rfl]; omega
   . have ha:fU p (az kT)=fU p (az gy):=by unfold fU; rfl
     rw [jb,jb,jb,ha,zr,if_pos rfl]
     omega
def Nb (a:Tx) (t:aG):Prop:=(a.1 ≠ 4->∀ c r,t=c::r->c8 c=false)/\(a.2=cW->∀ c r,t=c::r->c ≠ 61)
theorem Ml {p:UInt8->Bool}:∀ (s:aG),∀ c r,s.drop (s.takeWhile p).length=c::r->p c=false
 | [],c,r,h=>by simp at h
 | x::s,c,r,h=>by
   rw [l9] at h
   cases hx:p x with
   | true=>rw [hx,if_pos rfl,fm,List.drop_succ_cons] at h; exact Ml s c r h
   | false =>
     rw [hx,if_neg (by simp)] at h
     simp only [ko,eD,List.cons.injEq] at h
     rw [<- h.1]; exact hx
theorem Mj {p:UInt8->Bool}:∀ s:aG,(s.takeWhile p).all p=true
 | []=>rfl
 | x::s=>by
   rw [l9]
   cases hx:p x with
   | true=>rw [if_pos rfl,List.all_cons,hx,Mj s]; rfl
   | false=>rw [if_neg (by simp)]; rfl
theorem JX {p:UInt8->Bool}:∀ s:aG,s=s.takeWhile p++s.drop (s.takeWhile p).length
 | []=>rfl
 | x::s=>by
   rw [l9]
   cases hx:p x with
   | true=>rw [if_pos rfl,fm,List.drop_succ_cons,gE,<- JX s]
   | false=>rw [if_neg (by simp)]; rfl
theorem VS {s:aG} {k:Nat} {w:aG} (h:ic s=(0,k,w)) (h0:s ≠ []):s=w++s.drop w.length/\Nb (k,w) (s.drop w.length)/\w ≠ []:=by
 unfold ic at h
 simp only at h
 split at h
 . rename_i hw
   split at h
   . rename_i x hx
     simp only [gL,true_and] at h
     obtain ⟨rfl,rfl⟩:=h
     have hp:=List.find?_some hx
     have hm:=List.mem_of_find?_eq_some hx
     obtain ⟨t,ht⟩:=List.isPrefixOf_iff_prefix.1 hp
     have hd:s.drop x.length=t:=by rw [<- ht,List.drop_left]
     refine ⟨by rw [hd,ht],⟨fun h=>absurd rfl h,fun IG c r hc=>?_⟩,?_⟩
     . rintro rfl
       have IG:x=cW:=IG
       subst IG
       rw [hd] at hc
       subst hc
       rw [<- ht] at hx
       exact absurd hx (by simp [iN,bL,cW,List.isPrefixOf])
     . rintro rfl
       exact absurd hm (by decide)
   . simp at h
 . rename_i c r hw
   have cr:s.takeWhile c8 ≠ []:=by rw [hw]; simp
   have key:w=s.takeWhile c8->k ≠ 4->s=w++s.drop w.length/\Nb (k,w) (s.drop w.length)/\w ≠ []:=by
    intro e hk
    subst e
    exact ⟨JX s,⟨fun _ c r h=>Ml s c r h,fun h=>absurd h (Hr (Mj s))⟩,cr⟩
   split at h
   . simp only [gL] at h
     exact key (by rw [<- h.2.2,hw]) (by rw [<- h.2.1]; decide)
   . split at h
     . simp at h
     . split at h
       . simp only [gL] at h
         exact key (by rw [<- h.2.2,hw]) (by rw [<- h.2.1]; decide)
       . split at h
         . simp at h
         . simp only [gL] at h
           exact key (by rw [<- h.2.2,hw]) (by rw [<- h.2.1]; decide)
theorem U0 {a:Tx} {c:UInt8} {t:aG} (h:Nb a (c::t)) (b:Tx) (hb:mH b) (k:∃ r,c::t=b.2++r):fU a b=false:=by
 obtain ⟨r,hr⟩:=k
 obtain ⟨d,e,he,_,_,_,_,Wj,h4,hn⟩:=uP hb
 rw [he,gE] at hr
 obtain ⟨rfl,_⟩:=List.cons.inj hr
 unfold fU
 have n1:(a.1 != 4 && b.1 != 4)=false:=by
  by_cases ha:a.1=4
  . simp [ha]
  . have:=h.1 ha c t rfl
    by_cases iw:b.1=4
    . simp [iw]
    . have:=fe.1 (hn iw).1 c (by rw [he]; simp)
      simp_all
 have n2:(a.2 == cW && b.2 == gk)=false:=by
  by_cases ha:a.2=cW
  . have h':=h.2 ha c t rfl
    by_cases iw:b.2=gk
    . rw [iw] at he
      have:c=61:=by
       have:=congrArg List.head? he
       simpa [gk] using this.symm
      exact absurd this h'
    . simp [iw]
  . simp [ha]
 rw [n1,n2]; rfl
theorem I0 {acc l:List Tk} (h:xv.ok acc=xv.ok (acc++l)):l=[]:=by
 injection h with h
 have:=congrArg List.length h
 rw [cM] at this
 exact sw.1 (by omega)
theorem x7:∀ (f:Nat) (s:aG) (p:Nat) (acc X:List Tk),eT f s p acc=.ok X->∃ l,X=acc++l
 | 0,s,p,acc,X,h=>by
   simp only [eT,xv.ok.injEq] at h
   exact ⟨[],by simp [h]⟩
 | f+1,s,p,acc,X,h=>by
   simp only [eT] at h
   split at h
   . simp only [xv.ok.injEq] at h
     exact ⟨[],by simp [h]⟩
   . split at h
     . exact x7 f s _ acc X h
     . split at h
       . exact x7 f s _ acc X h
       . split at h
         . cases h
         . split at h
           . cases h
           . obtain ⟨l,hl⟩:=x7 f s _ _ X h
             exact ⟨_,by rw [hl,gi]⟩
theorem I6 {s:aG}:∀ (f p:Nat) (acc l:List Tk),eT f s p acc=.ok (acc++l)->tl (l.map tx) <= s.length - p/\∀ a:Tx,Nb a (s.drop p)->tl (a::l.map tx) <= a.2.length+(s.length - p)
 | 0,p,acc,l,h=>by
   rw [eT] at h
   obtain rfl:=I0 h
   exact ⟨by simp [Ak],fun a _=>by simp [xl]⟩
 | f+1,p,acc,l,h=>by
   rw [eT] at h
   split at h
   . obtain rfl:=I0 h
     exact ⟨by simp [Ak],fun a _=>by simp [xl]⟩
   . rename_i c r hd
     have aQ:p < s.length:=by
      have:=congrArg List.length hd
      simp at this; omega
     have skip:∀ q,p < q->eT f s q acc=.ok (acc++l)->tl (l.map tx) <= s.length - p/\∀ a:Tx,Nb a (s.drop p)->tl (a::l.map tx) <= a.2.length+(s.length - p):=by
      intro q hq hl
      obtain ⟨i1,_⟩:=I6 f q acc l hl
      refine ⟨by omega,fun a _=>?_⟩
      have:=(uN a (l.map tx)).2
      omega
     split at h
     . exact skip _ (by omega) h
     . split at h
       . rename_i zq
         refine skip _ ?_ h
         have:0 < ((c::r).takeWhile fun c=>c.toNat ≠ 10).length:=by
          rw [l9,if_pos (by simp [zq])]; simp
         omega
       . split at h
         rename_i e k t ht
         split at h
         . cases h
         . rename_i he
           split at h
           . cases h
           . have he:e=0:=Decidable.not_not.1 he
             subst he
             obtain ⟨q1,q2,q3⟩:=VS ht (by simp)
             have rp:s.drop (p+t.length)=(c::r).drop t.length:=by rw [<- List.drop_drop,hd]
             obtain ⟨l',tC⟩:∃ l',l=⟨k,t,p⟩::l':=by
              obtain ⟨l2,rT⟩:=x7 f s (p+t.length) (acc++[⟨k,t,p⟩]) _ h
              rw [gi] at rT
              exact ⟨l2,List.append_cancel_left rT⟩
             subst tC
             rw [show acc++(⟨k,t,p⟩:Tk)::l'=(acc++[⟨k,t,p⟩])++l' by simp] at h
             obtain ⟨i1,i2⟩:=I6 f _ _ l' h
             have oT:0 < t.length:=List.length_pos_iff.2 q3
             have hle:p+t.length <= s.length:=by
              have:=congrArg List.length q1
              have h2:=congrArg List.length hd
              simp only [cM,List.length_drop] at this h2
              omega
             have key:=i2 (k,t) (by rw [rp]; exact q2)
             refine ⟨?_,fun a ha=>?_⟩
             . have key:tl ((k,t)::l'.map tx) <= t.length+(s.length - (p+t.length)):=key
               show tl ((k,t)::l'.map tx) <= _
               omega
             . have key:tl ((k,t)::l'.map tx) <= t.length+(s.length - (p+t.length)):=key
               show tl (a::(k,t)::l'.map tx) <= _
               have hto:mH (k,t):=(AX ht).1
               rw [hd] at ha
               rw [jb,U0 ha (k,t) hto ⟨_,q1⟩,if_neg (by simp)]
               omega
theorem Yx {s:aG} {L:List Tk} (h:iM s=.ok L):tl (L.map tx) <= s.length:=by
 unfold iM at h
 split at h
 split at h
 . cases h
 . have:=(I6 s.length 0 [] L (by simpa using h)).1
   omega
theorem TR (a:Int) (s:aG) (c:UInt8):kX a (s++[c])=10 * kX a s+((c.toNat:Int) - 48):=by simp [kX]
theorem HG:∀ (s:aG) (a:Int),s.all gd=true->1 <= a->1 <= kX a s
 | [],a,_,h=>h
 | c::s,a,hs,h=>by
   simp only [List.all_cons,bS] at hs
   have hc:=iX.1 hs.1
   exact HG s (10 * a+((c.toNat:Int) - 48)) hs.2 (by omega)
theorem HF:∀ (s:aG) (a:Int),s.all gd=true->0 <= a->0 <= kX a s
 | [],a,_,h=>h
 | c::s,a,hs,h=>by
   simp only [List.all_cons,bS] at hs
   have hc:=iX.1 hs.1
   exact HF s (10 * a+((c.toNat:Int) - 48)) hs.2 (by omega)
theorem FL:∀ (f:Nat) (s:aG),s ≠ []->s.all gd=true->¬ (1 < s.length/\s.head?=some 48)->kX 0 s < 10 ^ f->s.length <= f->kZ f (kX 0 s).toNat=s
 | 0,s,h0,_,_,_,hl=>by exact absurd (sw.1 (by omega)) h0
 | f+1,s,h0,hd,hz,aQ,hl=>by
   rcases List.eq_nil_or_concat s with rfl | ⟨s',c,rfl⟩
   . exact absurd rfl h0
   rw [List.concat_eq_append] at *
   rw [List.all_append,bS] at hd
   have hc:48 <= c.toNat/\c.toNat <= 57:=iX.1 (by simpa using hd.2)
   have h0':=HF s' 0 hd.1 (by omega)
   rw [TR] at aQ ⊢
   have Wp:∀ n:Nat,(n:Int)=(c.toNat:Int) - 48->(48+n).toUInt8=c:=fun n hn=>by
    apply UInt8.toNat_inj.1
    simp [Nat.toUInt8,UInt8.toNat_ofNat']; omega
   unfold kZ
   cases s' with
   | nil =>
     have e:kX 0 []=0:=rfl
     rw [e]
     rw [if_pos (by omega),Wp _ (by omega)]; rfl
   | cons d Xf =>
     simp only [List.all_cons,bS] at hd
     have hdd:=iX.1 hd.1.1
     have abg:d ≠ 48:=fun e=>hz ⟨by simp,by simp [e]⟩
     have hdn:d.toNat ≠ 48:=fun e=>abg (UInt8.toNat_inj.1 e)
     have h1:1 <= kX 0 (d::Xf):=HG Xf (10 * 0+((d.toNat:Int) - 48)) hd.1.2 (by omega)
     generalize hv:kX 0 (d::Xf)=v at *
     rw [if_neg (by omega)]
     have e1:(10 * v+((c.toNat:Int) - 48)).toNat / 10=v.toNat:=by omega
     have e2:(10 * v+((c.toNat:Int) - 48)).toNat % 10=c.toNat - 48:=by omega
     rw [e1,e2,Wp _ (by omega)]
     have hp:(10:Int) ^ (f+1)=10 * 10 ^ f:=by rw [Int.pow_succ]; omega
     have ih:=FL f (d::Xf) (by simp) (by simp [hd.1.1,hd.1.2]) (fun h=>abg (by simpa using h.2)) (by rw [hv]; omega) (by simp at hl ⊢; omega)
     rw [hv] at ih
     rw [ih]
theorem TS {s:aG} (h0:s ≠ []) (h:oW s=0):mK (sd s)=s:=by
 obtain ⟨h1,h2,_⟩:=AM h
 obtain ⟨_,h7,_,_,h6⟩:=vw h0 h
 have hp:(1000000:Int) < 10 ^ 20:=by decide
 exact FL 20 s h0 h1 h2 (by show sd s < _; omega) (by omega)
end Go.Rip
namespace Go.Rip
def wo (L:List Tk) (i j:Nat):List Tx:=((L.drop i).take (j - i)).map tx
def Dr (L:List Tk) (i j:Nat) (l:List Tx):Prop:=i <= j/\j <= L.length/\oz l (wo L i j)
section
variable {L:List Tk} {E:Nat} {i j k:Nat} {l l':List Tx} {w:aG}
theorem JH (h1:i <= j) (h2:j <= k):wo L i j++wo L j k=wo L i k:=by
 unfold wo
 have:k - i=(j - i)+(k - j):=by omega
 rw [this,List.take_add,List.drop_drop,List.map_append,show i+(j - i)=j by omega]
theorem Dr.app (h:Dr L i j l) (h':Dr L j k l'):Dr L i k (l++l'):=by
 obtain ⟨a1,a2,a3⟩:=h
 obtain ⟨b1,b2,b3⟩:=h'
 refine ⟨by omega,b2,?_⟩
 rw [<- JH a1 b1]
 exact a3.app b3
theorem xg {t:Tk} (h:L[i]?=some t):wo L i (i+1)=[tx t]:=by
 have aQ:=(dC.1 h).1
 have he:=(dC.1 h).2
 unfold wo
 rw [ib aQ,he,show i+1 - i=1 by omega]; rfl
theorem Dr.one {t:Tk} (h:L[i]?=some t):Dr L i (i+1) [tx t]:=⟨by omega,(dC.1 h).1,by rw [xg h]; exact oz.refl _⟩
theorem Dr.skip {t:Tk} (h:L[i]?=some t):Dr L i (i+1) []:=⟨by omega,(dC.1 h).1,by rw [xg h]; exact .drop _ .nil⟩
variable (hL:∀ t ∈ L,kh t)
include hL
theorem D2 (hw:w ∈ k0++iN) (h:bf L i w=true):∃ t,L[i]?=some t/\tx t=az w:=by
 obtain ⟨t,ht,_,hs⟩:=vd h
 have h1:=hL t (gr ht)
 have h2:=XU w hw
 refine ⟨t,ht,Prod.ext ?_ hs⟩
 have e1:=h1.2
 have e2:=h2.2
 have e3:(az w).2=w:=rfl
 rw [e3] at e2
 rw [hs,e2] at e1
 simp only [gL,true_and] at e1
 exact e1.1.symm
theorem Dr.wd (hw:w ∈ k0++iN) (h:bf L i w=true):Dr L i (i+1) [az w]:=by
 obtain ⟨t,ht,e⟩:=D2 hL hw h
 rw [<- e]; exact Dr.one ht
theorem Dr.need {u:Unit} (hw:w ∈ k0++iN) (h:bI L w i=.ok u j):Dr L i j [az w]:=by
 have hj:=cH h
 unfold bI at h
 split at h
 . rename_i hh; rw [hj]; exact Dr.wd hL hw hh
 . cases h
omit hL in
theorem Dr.name {x:aG} (h:gx L i=.ok x j):Dr L i j [eC x]:=by
 have hj:=jV h
 unfold gx at h
 split at h
 . rename_i t ht
   split at h
   . rename_i hk
     obtain ⟨rfl,rfl⟩:=PR.aS h
     have:tx t=eC t.s:=Prod.ext hk rfl
     rw [<- this]; exact Dr.one ht
   . cases h
 . cases h
theorem Dr.num {n:Int} (h:iC L i=.ok n j):Dr L i j [iI n]/\∃ t,L[i]?=some t/\j=i+1/\(tx t).1 ≠ 4/\tx t=iI n:=by
 have hj:=om h
 unfold iC at h
 split at h
 . rename_i t ht
   split at h
   . rename_i hk
     obtain ⟨rfl,rfl⟩:=PR.aS h
     have hm:=hL t (gr ht)
     have:tx t=iI (sd t.s):=Prod.ext hk (by show t.s=mK _; rw [TS hm.1 (ED hm hk)])
     refine ⟨by rw [<- this]; exact Dr.one ht,t,ht,rfl,?_,this⟩
     show t.k ≠ 4
     omega
   . cases h
 . cases h
omit hL
def D1 (L:List Tk) (lev i:Nat) (ns:List Nd) (j:Nat):Prop:=∃ t:Tre,ns=t.flat/\∀ least,least <= lev->Dr L i j (dL t.kind least t.pr)
theorem D1.low {lev zF:Nat} {ns:List Nd} (h:D1 L lev i ns j) (hl:zF <= lev):D1 L zF i ns j:=by
 obtain ⟨t,h1,h2⟩:=h
 exact ⟨t,h1,fun least hle=>h2 least (by omega)⟩
theorem OM {k:Int} {least:Nat} (h:least <= bJ k) (l:List Tx):dL k least l=l:=by unfold dL; rw [if_pos h]
theorem MF (k:Int) (l:List Tx):dL k 0 l=l:=OM (Nat.zero_le _) l
theorem dT {lev:Nat} {kd:Int} {x:aG} {n m a:Int} {ns:List Nd} (ts:List Tre) (PL:ns=Tre.bq ts) (afr:lev <= bJ kd) (h:Dr L i j (Tre.mk kd x n m a ts).pr):D1 L lev i (node kd x n m a ns) j :=
 ⟨.mk kd x n m a ts,by rw [Tre.eA,PL]; rfl,fun least hle=>by rw [OM (by show least <= bJ kd; omega)]; exact h⟩
def DN (L:List Tk) (w:aG) (i:Nat) (ns:List Nd) (j:Nat):Prop:=∃ ts:List Tre,ns=Tre.bq ts/\ts ≠ []/\Dr L i j (cX w (ts.map Tre.pr))
theorem D1.n {ns:List Nd} (h:D1 L 0 i ns j):DN L w i ns j:=by
 obtain ⟨t,h1,h2⟩:=h
 have:=h2 0 (bT _)
 rw [MF] at this
 exact ⟨[t],by simp [h1],by simp,by simpa [cX] using this⟩
theorem DN.snoc {i1 k:Nat} {ns F9:List Nd} (h:DN L w i ns j) (hw:Dr L j i1 [az w]) (hk:D1 L 0 i1 F9 k):DN L w i (ns++F9) k:=by
 obtain ⟨ts,h1,h2,h3⟩:=h
 obtain ⟨t,k1,k2⟩:=hk
 have k2:=k2 0 (bT _)
 rw [MF] at k2
 refine ⟨ts++[t],by rw [h1,k1,Tre.eW]; simp,by simp,?_⟩
 rw [List.map_append,List.map_singleton,Ac w t.pr (by simpa using h2)]
 exact h3.app (hw.app k2)
variable (hL:∀ t ∈ L,kh t)
include hL
theorem Au {ns:List Nd} (h:fM L E i=.ok ns j):D1 L 0 i ns j:=by
 unfold fM at h
 split at h
 . rename_i hw
   obtain ⟨rfl,rfl⟩:=PR.aS h
   refine dT [] (by simp) (Nat.zero_le _) ?_
   rw [Tre.cu]; simpa [aU] using Dr.wd hL (by decide) hw
 . split at h
   . rename_i hw
     obtain ⟨rfl,rfl⟩:=PR.aS h
     refine dT [] (by simp) (Nat.zero_le _) ?_
     rw [Tre.cu]; simpa [aU] using Dr.wd hL (by decide) hw
   . split at h
     . rename_i hw
       obtain ⟨n,_,h1,h⟩:=PR.ah h
       obtain ⟨rfl,rfl⟩:=PR.aS h
       refine dT [] (by simp) (Nat.zero_le _) ?_
       rw [Tre.cu]; simpa [aU] using (Dr.wd hL (by decide) hw).app (Dr.num hL h1).1
     . obtain ⟨_,j1,h1,h⟩:=PR.ah h
       obtain ⟨n,j2,h2,h⟩:=PR.ah h
       obtain ⟨rfl,rfl⟩:=PR.aS h
       refine dT [] (by simp) (Nat.zero_le _) ?_
       have d1:=Dr.need hL (w:=gy) (by decide) h1
       obtain ⟨d2,t,ht,hj,h4,e⟩:=Dr.num hL h2
       have d12:=d1.app d2
       rw [Tre.cu]
       by_cases c1:n=1
       . subst c1
         obtain ⟨a1,a2,a3⟩:=d12
         refine ⟨a1,a2,?_⟩
         have ur:=cH h1
         have Bt:wo L i j2=[az gy,tx t]:=by
          rw [<- JH (L:=L) (i:=i) (j:=j1) (k:=j2) (by omega) (by omega),hj,xg ht]
          unfold bI at h1
          split at h1
          . rename_i hw
            obtain ⟨u,hu,eu⟩:=D2 hL (by decide) hw
            rw [ur,xg hu,eu]; rfl
          . cases h1
         rw [Bt]
         simpa [aU] using oz.OW (tx t) h4 .nil
       . by_cases c2:n=2
         . subst c2
           obtain ⟨a1,a2,a3⟩:=d12
           refine ⟨a1,a2,?_⟩
           have ur:=cH h1
           have Bt:wo L i j2=[az gy,tx t]:=by
            rw [<- JH (L:=L) (i:=i) (j:=j1) (k:=j2) (by omega) (by omega),hj,xg ht]
            unfold bI at h1
            split at h1
            . rename_i hw
              obtain ⟨u,hu,eu⟩:=D2 hL (by decide) hw
              rw [ur,xg hu,eu]; rfl
            . cases h1
           rw [Bt]
           simpa [aU] using oz.OK (tx t) h4 .nil
         . simpa [aU,c1,c2] using d12
theorem KZ {ns:List Nd} (h:kW L E i=.ok ns j):D1 L 0 i ns j:=by
 unfold kW at h
 obtain ⟨x,_,h1,h⟩:=PR.ah h
 obtain ⟨rfl,rfl⟩:=PR.aS h
 refine dT [] (by simp) (Nat.zero_le _) ?_
 rw [Tre.cu]; simpa [aU] using Dr.name h1
theorem LQ {one:Nat->PR (List Nd)} (h1:∀ {i j ns},one i=.ok ns j->D1 L 0 i ns j):∀ (f:Nat) (acc:List Nd) (i0 i:Nat) {j:Nat} {ns:List Nd},lV L one f acc i=.ok ns j->DN L cw i0 acc i->DN L cw i0 ns j
 | 0,_,_,_,_,_,h,_=>by cases h
 | f+1,acc,i0,i,j,ns,h,ha=>by
   unfold lV at h
   split at h
   . rename_i hw
     obtain ⟨_,_,h2,h⟩:=PR.ah h
     exact LQ h1 f _ i0 _ h (ha.snoc (Dr.wd hL (by decide) hw) (h1 h2))
   . obtain ⟨rfl,rfl⟩:=PR.aS h
     exact ha
theorem Et {one:Nat->PR (List Nd)} (h1:∀ {i j ns},one i=.ok ns j->D1 L 0 i ns j) {f:Nat} {ns:List Nd} (h:ju L one f i=.ok ns j):DN L cw i ns j:=by
 unfold ju at h
 obtain ⟨_,_,h2,h⟩:=PR.ah h
 exact LQ hL h1 f _ i _ h (h1 h2).n
omit hL
theorem Vd {ts:List Tre} {t:Tre} {x:aG} {n m a:Int}:(Tre.mk 8 x n m a (ts++[t])).pr=[az cB]++(cX cw (ts.map Tre.pr)++([az cg]++([az fF]++t.pr))):=by
 rw [Tre.cu]
 have e1:(ts++[t]).map (fun t=>(t.kind,t.pr))=(ts.map fun t=>(t.kind,t.pr))++[(t.kind,t.pr)]:=by simp
 rw [e1]
 generalize hq:ts.map (fun t=>(t.kind,t.pr))=q
 have e3:ts.map Tre.pr=q.map (·.2):=by rw [<- hq,List.map_map]; rfl
 rw [e3]
 simp [aU,nG]
theorem ad8 {ts:List Tre} {t:Tre} {x:aG} {n m a:Int}:(Tre.mk 35 x n m a (ts++[t])).pr=[az qF]++([az cB]++(cX cw (ts.map Tre.pr)++([az cg]++dL t.kind 1 t.pr))):=by
 rw [Tre.cu]
 have e1:(ts++[t]).map (fun t=>(t.kind,t.pr))=(ts.map fun t=>(t.kind,t.pr))++[(t.kind,t.pr)]:=by simp
 rw [e1]
 generalize hq:ts.map (fun t=>(t.kind,t.pr))=q
 have e3:ts.map Tre.pr=q.map (·.2):=by rw [<- hq,List.map_map]; rfl
 rw [e3]
 simp [aU,nG]
theorem YV {ts:List Tre} {x:aG} {n m a:Int}:(Tre.mk 34 x n m a ts).pr=[eC x]++([az cB]++(cX cw (ts.map Tre.pr)++[az cg])):=by
 rw [Tre.cu]
 have e3:ts.map Tre.pr=(ts.map fun t=>(t.kind,t.pr)).map (·.2):=by rw [List.map_map]; rfl
 rw [e3]; simp [aU]
theorem abM {k:Int} {ps:List Tre} {B C:Tre} {x:aG} {n m a:Int} (hk:k=3\/k=4):(Tre.mk k x n m a (ps++[B,C])).pr=[az (if k=3 then fH else dz)]++([eC x]++([az cB]++(cX cw (ps.map Tre.pr)++([az cg]++([az cW]++(B.pr++([az gk]++(C.pr++[az cn])))))))):=by
 rw [Tre.cu]
 have e1:(ps++[B,C]).map (fun t=>(t.kind,t.pr))=(ps.map fun t=>(t.kind,t.pr))++[(B.kind,B.pr),(C.kind,C.pr)]:=by simp
 rw [e1]
 generalize hq:ps.map (fun t=>(t.kind,t.pr))=q
 have e3:ps.map Tre.pr=q.map (·.2):=by rw [<- hq,List.map_map]; rfl
 rw [e3]
 have el:(q++[(B.kind,B.pr),(C.kind,C.pr)]).length - 2=q.length:=by simp
 have O5:(q++[(B.kind,B.pr),(C.kind,C.pr)]).length - 1=q.length+1:=by simp
 rcases hk with rfl | rfl <;> simp [aU,el,O5,nG]
theorem D1.pr {ns:List Nd} (h:D1 L 0 i ns j):∃ t:Tre,ns=t.flat/\Dr L i j t.pr:=by
 obtain ⟨t,h1,h2⟩:=h
 have:=h2 0 (bT _)
 rw [MF] at this
 exact ⟨t,h1,this⟩
include hL
theorem LM {f:Nat} {ns:List Nd} (h:jh L E f i=.ok ns j):D1 L 0 i ns j:=by
 unfold jh at h
 split at h
 . rename_i hw
   obtain ⟨_,_,h1,h⟩:=PR.ah h
   obtain ⟨_,_,h2,h⟩:=PR.ah h
   obtain ⟨_,_,h3,h⟩:=PR.ah h
   obtain ⟨_,_,h4,h⟩:=PR.ah h
   obtain ⟨ts,e1,_,d1⟩:=Et hL (fun h=>Au hL h) h1
   obtain ⟨t,e2,d2⟩:=(Au hL h4).pr
   obtain ⟨rfl,rfl⟩:=PR.aS h
   refine dT (ts++[t]) (by rw [e1,e2,Tre.eW]; simp) (Nat.zero_le _) ?_
   rw [Vd]
   exact (Dr.wd hL (by decide) hw).app (d1.app ((Dr.need hL (by decide) h2).app ((Dr.need hL (by decide) h3).app d2)))
 . exact Au hL h
theorem U6 {f:Nat} {ns:List Nd} (h:jx L E f i=.ok ns j):D1 L 0 i ns j:=by
 unfold jx at h
 obtain ⟨_,_,h1,h⟩:=PR.ah h
 obtain ⟨_,_,h2,h⟩:=PR.ah h
 obtain ⟨_,_,h3,h⟩:=PR.ah h
 obtain ⟨t,e,d⟩:=(LM hL h3).pr
 obtain ⟨rfl,rfl⟩:=PR.aS h
 refine dT [t] (by simp [e]) (Nat.zero_le _) ?_
 rw [Tre.cu]
 simpa [aU] using (Dr.name h1).app ((Dr.need hL (w:=cW) (by decide) h2).app d)
end
end Go.Rip
namespace Go.Rip
section
variable {L:List Tk} {E:Nat} {i j k:Nat} {l l':List Tx} {w:aG}
def AL (lev:Nat):Nat:=if lev=5 then 6 else lev
theorem D1.at {lev least:Nat} {ns:List Nd} (h:D1 L lev i ns j) (hl:least <= lev):∃ t:Tre,ns=t.flat/\Dr L i j (dL t.kind least t.pr):=by
 obtain ⟨t,h1,h2⟩:=h
 exact ⟨t,h1,h2 least hl⟩
def DS (L:List Tk) (i:Nat) (ns:List Nd) (many j:Nat):Prop:=∃ ts:List Tre,ns=Tre.bq ts/\ts.length=many/\1 <= many/\Dr L i j (cX cn (ts.map fun t=>dL t.kind 1 t.pr))/\(many=1->D1 L 1 i ns j)
theorem D1.s {ns:List Nd} (h:D1 L 1 i ns j):DS L i ns 1 j:=by
 obtain ⟨t,h1,h2⟩:=h.at (bT 1)
 exact ⟨[t],by simp [h1],rfl,bT _,by simpa [cX] using h2,fun _=>h⟩
theorem DS.snoc {i1 k many:Nat} {ns F9:List Nd} (h:DS L i ns many j) (hw:Dr L j i1 [az cn]) (hk:D1 L 1 i1 F9 k):DS L i (ns++F9) (many+1) k:=by
 obtain ⟨ts,h1,h2,h3,h4,_⟩:=h
 obtain ⟨t,k1,k2⟩:=hk.at (bT 1)
 refine ⟨ts++[t],by rw [h1,k1,Tre.eW]; simp,by simp [h2],by omega,?_,fun h=>by omega⟩
 have cr:ts ≠ []:=fun e=>by rw [e] at h2; simp at h2; omega
 rw [List.map_append,List.map_singleton,Ac cn (dL t.kind 1 t.pr) (by simpa using cr)]
 exact h4.app (hw.app k2)
theorem QB {lev i:Nat} {kd:Int} (h:nD L lev i=some kd):bJ kd=lev/\bf L i (jP kd)=true/\jP kd ∈ k0++iN/\(lev ≠ 8->kd ≠ 19/\kd ≠ 25/\17 <= kd/\kd <= 24)/\(lev=8->kd=25):=by
 unfold nD at h
 repeat' split at h
 all_goals first
  | (cases h; done)
  | (cases h; subst_vars; exact ⟨rfl,by assumption,by decide,fun _=>by decide,fun h=>absurd h (by decide)⟩)
  | (cases h; subst_vars; exact ⟨rfl,by assumption,by decide,fun h=>absurd rfl h,fun h=>rfl⟩)
theorem ad9 {kd:Int} {A B:Tre} {x:aG} {n m a:Int} (h:kd ≠ 19/\kd ≠ 25/\17 <= kd/\kd <= 24):(Tre.mk kd x n m a [A,B]).pr=dL A.kind (AL (bJ kd)) A.pr++([az (jP kd)]++dL B.kind (bJ kd+1) B.pr):=by
 have:kd=17\/kd=18\/kd=20\/kd=21\/kd=22\/kd=23\/kd=24:=by omega
 rw [Tre.cu]
 rcases this with rfl | rfl | rfl | rfl | rfl | rfl | rfl <;> simp [aU,AL,bJ,jP]
theorem aa9 (hL:∀ t ∈ L,kh t):∀ f:Nat,
 (∀ {i j ns},gJ L E f i=.ok ns j->D1 L 0 i ns j) /\
 (∀ {i0 i at_ acc many j ns},mR L E f at_ acc many i=.ok ns j->DS L i0 acc many i->D1 L 0 i0 ns j) /\
 (∀ {i j ns},bw L E f i=.ok ns j->D1 L 1 i ns j) /\
 (∀ {i lev j ns},dX L E f lev i=.ok ns j->lev <= 9->D1 L lev i ns j) /\
 (∀ {i0 i lev left j ns},kM L E f lev left i=.ok ns j->D1 L (AL lev) i0 left i->D1 L lev i0 ns j) /\
 (∀ {i j ns},fY L E f i=.ok ns j->D1 L 9 i ns j) /\
 (∀ {i0 i acc j ns},j9 L E f acc i=.ok ns j->DN L cw i0 acc i->DN L cw i0 ns j) /\
 (∀ {i j ns},iL L E f i=.ok ns j->D1 L 0 i ns j):=by
 intro f
 induction f with
 | zero=>refine ⟨?_,?_,?_,?_,?_,?_,?_,?_⟩ <;> (intros; rename_i h; first | (rw [gJ] at h; cases h; done) | (rw [bw] at h; cases h; done) | (rw [dX] at h; cases h; done) | (rw [fY] at h; cases h; done) | (rw [iL] at h; cases h; done) | (simp_all [mR]; done) | (simp_all [kM]; done) | (simp_all [j9]; done) | (simp_all [dX]; done))
 | succ f ih =>
   obtain ⟨iT,iS,iF,iO,iP,iA,iG,iR⟩:=ih
   refine ⟨?_,?_,?_,?_,?_,?_,?_,?_⟩
   . intro i j ns h
     rw [gJ] at h
     obtain ⟨_,_,h1,h⟩:=PR.ah h
     exact iS h (iF h1).s
   . intro i0 i at_ acc many j ns h ha
     rw [mR] at h
     split at h
     . rename_i hw
       obtain ⟨_,_,h1,h⟩:=PR.ah h
       exact iS h (ha.snoc (Dr.wd hL (by decide) hw.1) (iF h1))
     . obtain ⟨rfl,rfl⟩:=PR.aS h
       obtain ⟨ts,e1,l1,m1,d1,o1⟩:=ha
       split
       . rename_i h1
         exact (o1 h1).low (Nat.zero_le _)
       . refine dT ts e1 (Nat.zero_le _) ?_
         have e:(Tre.mk 9 [] 0 0 at_ ts).pr=cX cn (ts.map fun t=>dL t.kind 1 t.pr):=by rw [Tre.cu]; simp only [aU,List.map_map]; rfl
         rw [e]; exact d1
   . intro i j ns h
     rw [bw] at h
     split at h
     . rename_i hw
       obtain ⟨_,_,h1,h⟩:=PR.ah h
       obtain ⟨_,_,h2,h⟩:=PR.ah h
       obtain ⟨_,_,h3,h⟩:=PR.ah h
       obtain ⟨_,_,h4,h⟩:=PR.ah h
       obtain ⟨_,_,h5,h⟩:=PR.ah h
       obtain ⟨A,e1,d1⟩:=(iF h1).at (bT 1); obtain ⟨B,e2,d2⟩:=(iF h3).at (bT 1); obtain ⟨C,e3,d3⟩:=(iF h5).at (bT 1)
       obtain ⟨rfl,rfl⟩:=PR.aS h
       refine dT [A,B,C] (by simp [e1,e2,e3]) (by decide) ?_
       rw [Tre.cu]
       simpa [aU] using (Dr.wd hL (by decide) hw).app (d1.app ((Dr.need hL (w:=nP) (by decide) h2).app (d2.app ((Dr.need hL (w:=eG) (by decide) h4).app d3))))
     split at h
     . rename_i hw
       obtain ⟨_,_,h1,h⟩:=PR.ah h
       obtain ⟨_,_,h2,h⟩:=PR.ah h
       obtain ⟨_,_,h3,h⟩:=PR.ah h
       obtain ⟨A,e1,d1⟩:=(iF h1).at (bT 1); obtain ⟨B,e2,d2⟩:=(iF h3).at (bT 1)
       obtain ⟨rfl,rfl⟩:=PR.aS h
       refine dT [A,B] (by simp [e1,e2]) (by decide) ?_
       rw [Tre.cu]
       simpa [aU] using (Dr.wd hL (by decide) hw).app (d1.app ((Dr.need hL (w:=rP) (by decide) h2).app d2))
     split at h
     . rename_i hw
       obtain ⟨_,_,h1,h⟩:=PR.ah h
       obtain ⟨_,_,h2,h⟩:=PR.ah h
       obtain ⟨_,_,h3,h⟩:=PR.ah h
       obtain ⟨_,_,h4,h⟩:=PR.ah h
       obtain ⟨_,_,h5,h⟩:=PR.ah h
       obtain ⟨_,_,h6,h⟩:=PR.ah h
       obtain ⟨_,_,h7,h⟩:=PR.ah h
       obtain ⟨A,e1,d1⟩:=(iF h7).at (bT 1)
       obtain ⟨rfl,rfl⟩:=PR.aS h
       refine dT [A] (by simp [e1]) (by decide) ?_
       rw [Tre.cu]
       simpa [aU] using (Dr.wd hL (by decide) hw).app ((Dr.name h1).app ((Dr.need hL (w:=cW) (by decide) h2).app ((Dr.num hL h3).1.app ((Dr.need hL (w:=bL) (by decide) h4).app ((Dr.num hL h5).1.app ((Dr.need hL (w:=jJ) (by decide) h6).app d1))))))
     split at h
     . rename_i hw
       obtain ⟨_,_,h1,h⟩:=PR.ah h
       obtain ⟨_,_,h2,h⟩:=PR.ah h
       obtain ⟨_,_,h3,h⟩:=PR.ah h
       obtain ⟨_,_,h4,h⟩:=PR.ah h
       obtain ⟨_,_,h5,h⟩:=PR.ah h
       obtain ⟨A,e1,d1⟩:=(iF h3).at (bT 1); obtain ⟨B,e2,d2⟩:=(iF h5).at (bT 1)
       obtain ⟨rfl,rfl⟩:=PR.aS h
       refine dT [A,B] (by simp [e1,e2]) (by decide) ?_
       rw [Tre.cu]
       simpa [aU] using (Dr.wd hL (by decide) hw).app ((Dr.name h1).app ((Dr.need hL (w:=jJ) (by decide) h2).app (d1.app ((Dr.need hL (w:=eG) (by decide) h4).app d2))))
     split at h
     . rename_i hw
       obtain ⟨_,_,h1,h⟩:=PR.ah h
       obtain ⟨_,_,h2,h⟩:=PR.ah h
       obtain ⟨_,_,h3,h⟩:=PR.ah h
       obtain ⟨A,e1,d1⟩:=(iF h1).at (bT 1); obtain ⟨B,e2,d2⟩:=(iF h3).at (bT 1)
       obtain ⟨rfl,rfl⟩:=PR.aS h
       refine dT [A,B] (by simp [e1,e2]) (by decide) ?_
       rw [Tre.cu]
       simpa [aU] using (Dr.wd hL (by decide) hw).app (d1.app ((Dr.need hL (w:=eG) (by decide) h2).app d2))
     split at h
     . rename_i hw
       obtain ⟨_,_,h1,h⟩:=PR.ah h
       obtain ⟨_,_,h2,h⟩:=PR.ah h
       obtain ⟨_,_,h3,h⟩:=PR.ah h
       obtain ⟨_,_,h4,h⟩:=PR.ah h
       obtain ⟨_,_,h5,h⟩:=PR.ah h
       obtain ⟨A,e1,d1⟩:=(iF h5).at (bT 1)
       obtain ⟨rfl,rfl⟩:=PR.aS h
       refine dT [A] (by simp [e1]) (by decide) ?_
       rw [Tre.cu]
       simpa [aU] using (Dr.wd hL (by decide) hw).app ((Dr.name h1).app ((Dr.need hL (w:=bL) (by decide) h2).app ((Dr.num hL h3).1.app ((Dr.need hL (w:=jJ) (by decide) h4).app d1))))
     split at h
     . obtain ⟨_,_,h1,h⟩:=PR.ah h
       obtain ⟨_,_,h2,h⟩:=PR.ah h
       obtain ⟨_,_,h3,h⟩:=PR.ah h
       obtain ⟨A,e1,d1⟩:=(iF h3).at (bT 1)
       obtain ⟨rfl,rfl⟩:=PR.aS h
       refine dT [A] (by simp [e1]) (by decide) ?_
       rw [Tre.cu]
       simpa [aU] using (Dr.name h1).app ((Dr.need hL (w:=bL) (by decide) h2).app d1)
     . exact (iO h (by omega)).low (by omega)
   . intro i lev j ns h Il
     rw [dX] at h
     split at h
     . rename_i h9
       subst h9
       exact iA h
     split at h
     . rename_i h4
       subst h4
       split at h
       . rename_i hw
         obtain ⟨_,_,h1,h⟩:=PR.ah h
         obtain ⟨A,e1,d1⟩:=(iO h1 (by omega)).at (bT 4)
         obtain ⟨rfl,rfl⟩:=PR.aS h
         refine dT [A] (by simp [e1]) (by decide) ?_
         rw [Tre.cu]
         simpa [aU] using (Dr.wd hL (by decide) hw).app d1
       . exact (iO h (by omega)).low (by omega)
     . obtain ⟨_,_,h1,h⟩:=PR.ah h
       exact iP h ((iO h1 (by omega)).low (by unfold AL; split <;> omega))
   . intro i0 i lev left j ns h hd
     rw [kM] at h
     split at h
     . obtain ⟨rfl,rfl⟩:=PR.aS h
       exact hd.low (by unfold AL; split <;> omega)
     rename_i kind hk
     obtain ⟨o1,o2,o3,o4,o5⟩:=QB hk
     split at h
     . rename_i h8
       subst h8
       have:=o5 rfl
       subst this
       obtain ⟨_,_,h1,h⟩:=PR.ah h
       obtain ⟨A,e1,d1⟩:=hd.at (least:=8) (bT 8)
       refine iP h (dT [A] (by simp [e1]) (by decide) ?_)
       rw [Tre.cu]
       simpa [aU] using d1.app ((Dr.wd hL (w:=tu) (by decide) o2).app (Dr.num hL h1).1)
     . rename_i h8
       obtain ⟨_,_,h1,h⟩:=PR.ah h
       have Il:lev+1 <= 9:=by
        have:bJ kind <= 9:=AI kind
        have h9:lev ≠ 9:=fun h9=>by
         rw [h9] at hk; simp [nD] at hk
        omega
       obtain ⟨A,e1,d1⟩:=hd.at (bT _)
       obtain ⟨B,e2,d2⟩:=(iO h1 Il).at (bT _)
       have dr:=d1.app ((Dr.wd hL o3 o2).app d2)
       rw [<- o1,<- ad9 (x:=[]) (n:=0) (m:=0) (a:=dc L E i) (o4 h8)] at dr
       split at h
       . rename_i h5
         obtain ⟨rfl,rfl⟩:=PR.aS h
         exact dT [A,B] (by simp [e1,e2]) (by omega) dr
       . rename_i h5
         refine iP h (dT [A,B] (by simp [e1,e2]) (by rw [o1]; unfold AL; rw [if_neg h5]; exact bT _) dr)
   . intro i j ns h
     rw [fY] at h
     split at h
     . rename_i hw
       obtain ⟨rfl,rfl⟩:=PR.aS h
       refine dT [] (by simp) (by decide) ?_
       rw [Tre.cu]; simpa [aU] using Dr.wd hL (by decide) hw
     split at h
     . rename_i hw
       obtain ⟨rfl,rfl⟩:=PR.aS h
       refine dT [] (by simp) (by decide) ?_
       rw [Tre.cu]; simpa [aU] using Dr.wd hL (by decide) hw
     split at h
     . rename_i hw
       obtain ⟨rfl,rfl⟩:=PR.aS h
       refine dT [] (by simp) (by decide) ?_
       rw [Tre.cu]; simpa [aU] using Dr.wd hL (by decide) hw
     split at h
     . rename_i hw
       obtain ⟨rfl,rfl⟩:=PR.aS h
       refine dT [] (by simp) (by decide) ?_
       rw [Tre.cu]; simpa [aU] using Dr.wd hL (by decide) hw
     split at h
     . rename_i hw
       obtain ⟨_,_,h1,h⟩:=PR.ah h
       obtain ⟨rfl,rfl⟩:=PR.aS h
       refine dT [] (by simp) (by decide) ?_
       rw [Tre.cu]; simpa [aU] using (Dr.wd hL (by decide) hw).app (Dr.name h1)
     split at h
     . rename_i hw
       obtain ⟨_,_,h1,h⟩:=PR.ah h
       obtain ⟨rfl,rfl⟩:=PR.aS h
       refine dT [] (by simp) (by decide) ?_
       rw [Tre.cu]; simpa [aU] using (Dr.wd hL (by decide) hw).app (Dr.name h1)
     split at h
     . rename_i hw
       obtain ⟨_,_,h1,h⟩:=PR.ah h
       obtain ⟨_,_,h2,h⟩:=PR.ah h
       obtain ⟨A,e1,d1⟩:=(iT h1).pr
       obtain ⟨rfl,rfl⟩:=PR.aS h
       refine ⟨A,e1,fun least _=>?_⟩
       obtain ⟨t1,ht1,_⟩:=D2 hL (by decide) hw
       have u7:=h2
       unfold bI at u7
       split at u7
       . rename_i Lx
         obtain ⟨t2,ht2,_⟩:=D2 hL (by decide) Lx
         unfold dL
         split
         . have hj:=cH h2
           have:=(Dr.skip ht1).app (d1.app (Dr.skip ht2))
           rw [hj]
           simpa using this
         . simpa using (Dr.wd hL (w:=cB) (by decide) hw).app (d1.app (Dr.need hL (w:=cg) (by decide) h2))
       . cases u7
     split at h
     . obtain ⟨_,_,h1,h⟩:=PR.ah h
       obtain ⟨rfl,rfl⟩:=PR.aS h
       refine dT [] (by simp) (by decide) ?_
       rw [Tre.cu]; simpa [aU] using (Dr.num hL h1).1
     . obtain ⟨_,_,h1,h⟩:=PR.ah h
       split at h
       . rename_i hw
         obtain ⟨_,_,h2,h⟩:=PR.ah h
         obtain ⟨_,_,h3,h⟩:=PR.ah h
         obtain ⟨_,_,h4,h⟩:=PR.ah h
         obtain ⟨ts,e1,_,d1⟩:=iG h3 (iR h2).n
         obtain ⟨rfl,rfl⟩:=PR.aS h
         refine dT ts e1 (by decide) ?_
         rw [YV]
         exact (Dr.name h1).app ((Dr.wd hL (by decide) hw).app (d1.app (Dr.need hL (by decide) h4)))
       . obtain ⟨rfl,rfl⟩:=PR.aS h
         refine dT [] (by simp) (by decide) ?_
         rw [Tre.cu]; simpa [aU] using Dr.name h1
   . intro i0 i acc j ns h ha
     rw [j9] at h
     split at h
     . rename_i hw
       obtain ⟨_,_,h1,h⟩:=PR.ah h
       exact iG h (ha.snoc (Dr.wd hL (by decide) hw) (iR h1))
     . obtain ⟨rfl,rfl⟩:=PR.aS h
       exact ha
   . intro i j ns h
     rw [iL] at h
     split at h
     . rename_i hw
       obtain ⟨_,_,h1,h⟩:=PR.ah h
       obtain ⟨_,_,h2,h⟩:=PR.ah h
       obtain ⟨_,_,h3,h⟩:=PR.ah h
       obtain ⟨_,_,h4,h⟩:=PR.ah h
       obtain ⟨ts,e1,_,d1⟩:=Et hL (fun h=>KZ hL h) h2
       obtain ⟨B,e2,d2⟩:=(iF h4).at (bT 1)
       obtain ⟨rfl,rfl⟩:=PR.aS h
       refine dT (ts++[B]) (by rw [e1,e2,Tre.eW]; simp) (Nat.zero_le _) ?_
       rw [ad8]
       exact (Dr.wd hL (by decide) hw).app ((Dr.need hL (by decide) h1).app (d1.app ((Dr.need hL (by decide) h3).app d2)))
     split at h
     . rename_i hw
       obtain ⟨_,_,h1,h⟩:=PR.ah h
       obtain ⟨_,_,h2,h⟩:=PR.ah h
       obtain ⟨_,_,h3,h⟩:=PR.ah h
       obtain ⟨_,_,h4,h⟩:=PR.ah h
       obtain ⟨_,_,h5,h⟩:=PR.ah h
       obtain ⟨_,_,h6,h⟩:=PR.ah h
       obtain ⟨_,_,h7,h⟩:=PR.ah h
       obtain ⟨_,_,h8,h⟩:=PR.ah h
       obtain ⟨A,e1,d1⟩:=(iF h2).at (bT 1)
       obtain ⟨B,e2,d2⟩:=(KZ hL h5).pr
       obtain ⟨C,e3,d3⟩:=(iF h7).at (bT 1)
       obtain ⟨rfl,rfl⟩:=PR.aS h
       refine dT [A,B,C] (by simp [e1,e2,e3]) (Nat.zero_le _) ?_
       rw [Tre.cu]
       simpa [aU] using (Dr.wd hL (by decide) hw).app ((Dr.need hL (w:=vI) (by decide) h1).app (d1.app ((Dr.need hL (w:=cn) (by decide) h3).app ((Dr.need hL (w:=vJ) (by decide) h4).app (d2.app ((Dr.need hL (w:=tU) (by decide) h6).app (d3.app (Dr.need hL (w:=qq) (by decide) h8))))))))
     . exact iT h
theorem Yn (hL:∀ t ∈ L,kh t) {f:Nat} {ns:List Nd} (h:lU L E f i=.ok ns j):D1 L 0 i ns j:=by
 unfold lU at h
 split at h
 . rename_i hw
   obtain ⟨_,_,h1,h⟩:=PR.ah h
   obtain ⟨_,_,h2,h⟩:=PR.ah h
   obtain ⟨_,_,h3,h⟩:=PR.ah h
   obtain ⟨_,_,h4,h⟩:=PR.ah h
   obtain ⟨A,e1,d1⟩:=(LM hL h3).pr
   obtain ⟨rfl,rfl⟩:=PR.aS h
   refine dT [A] (by simp [e1]) (Nat.zero_le _) ?_
   rw [Tre.cu]
   simpa [aU] using (Dr.wd hL (by decide) hw).app ((Dr.name h1).app ((Dr.need hL (w:=cW) (by decide) h2).app (d1.app (Dr.need hL (w:=cn) (by decide) h4))))
 . obtain ⟨kd,i1,h0,h⟩:=PR.ah h
   obtain ⟨_,_,h1,h⟩:=PR.ah h
   obtain ⟨_,_,h2,h⟩:=PR.ah h
   obtain ⟨a,i2,h3,h⟩:=PR.ah h
   obtain ⟨_,_,h4,h⟩:=PR.ah h
   obtain ⟨_,_,h5,h⟩:=PR.ah h
   obtain ⟨_,_,h6,h⟩:=PR.ah h
   obtain ⟨_,_,h7,h⟩:=PR.ah h
   obtain ⟨_,_,h8,h⟩:=PR.ah h
   obtain ⟨_,_,h9,h⟩:=PR.ah h
   obtain ⟨B,e2,d2⟩:=(Au hL h6).pr
   obtain ⟨C,e3,d3⟩:=((aa9 hL f).1 h8).pr
   obtain ⟨rfl,rfl⟩:=PR.aS h
   have d0:(kd=3\/kd=4)/\Dr L i i1 [az (if kd=3 then fH else dz)]:=by
    split at h0
    . rename_i hw
      obtain ⟨rfl,rfl⟩:=PR.aS h0
      exact ⟨.inl rfl,Dr.wd hL (w:=fH) (by decide) hw⟩
    . obtain ⟨_,_,h0',h0⟩:=PR.ah h0
      obtain ⟨rfl,rfl⟩:=PR.aS h0
      exact ⟨.inr rfl,Dr.need hL (w:=dz) (by decide) h0'⟩
   obtain ⟨ts,e1,d1⟩:∃ ts:List Tre,a=Tre.bq ts/\Dr L _ i2 (cX cw (ts.map Tre.pr)):=by
    split at h3
    . rename_i hw
      obtain ⟨rfl,rfl⟩:=PR.aS h3
      have:=(Dr.need hL (by decide) h2)
      refine ⟨[],by simp,bT _,this.2.1,?_⟩
      unfold wo
      rw [Nat.sub_self]
      exact .nil
    . obtain ⟨ts,e1,_,d1⟩:=Et hL (fun h=>U6 hL h) h3
      exact ⟨ts,e1,d1⟩
   refine dT (ts++[B,C]) (by rw [e1,e2,e3,Tre.eW]; simp) (Nat.zero_le _) ?_
   rw [abM d0.1]
   exact d0.2.app ((Dr.name h1).app ((Dr.need hL (by decide) h2).app (d1.app ((Dr.need hL (by decide) h4).app ((Dr.need hL (by decide) h5).app (d2.app ((Dr.need hL (by decide) h7).app (d3.app (Dr.need hL (by decide) h9)))))))))
theorem IP (hL:∀ t ∈ L,kh t):∀ (f:Nat) (acc:List Nd) (ts:List Tre) (i:Nat) {j:Nat} {ns:List Nd},jN L E f acc i=.ok ns j->acc=Tre.bq ts->Dr L 0 i (gQ ts)->∃ us:List Tre,ns=Tre.bq us/\Dr L 0 j (gQ us)
 | 0,_,_,_,_,_,h,_,_=>by cases h
 | f+1,acc,ts,i,j,ns,h,ha,hd=>by
   unfold jN at h
   split at h
   . obtain ⟨_,_,h1,h⟩:=PR.ah h
     obtain ⟨t,e,d⟩:=(Yn hL h1).pr
     refine IP hL f _ (ts++[t]) _ h (by rw [ha,e,Tre.eW]; simp) ?_
     have:gQ (ts++[t])=gQ ts++t.pr:=by simp [gQ]
     rw [this]
     exact hd.app d
   . obtain ⟨rfl,rfl⟩:=PR.aS h
     exact ⟨ts,ha,hd⟩
end
end Go.Rip
namespace Go.Rip
theorem To (a:List Tx):∀ b:List Tx,tl a+tl b <= tl (a++b):=by
 induction a with
 | nil=>intro b; rw [Ak]; simp
 | cons x a ih =>
   intro b
   cases a with
   | nil =>
     have:=(uN x b).1
     rw [xl]; exact this
   | cons y a =>
     have:=ih b
     rw [gE,gE,jb,jb]
     rw [gE] at this
     omega
theorem LH:∀ us:List Tre,(gg us).length <= tl (gQ us)+us.length
 | []=>by simp [gg,gQ,Ak]
 | t::us=>by
   have h1:=LH us
   have h2:=To t.pr (gQ us)
   have e1:gg (t::us)=cL t.pr++10::gg us:=by simp [gg]
   have e2:gQ (t::us)=t.pr++gQ us:=rfl
   rw [e1,e2,cM,fm,fm]
   have:(cL t.pr).length=tl t.pr:=rfl
   omega
theorem FO:∀ us:List Tre,us.length <= (gg us).count 10
 | []=>by simp
 | t::us=>by
   have h1:=FO us
   have e1:gg (t::us)=cL t.pr++10::gg us:=by simp [gg]
   rw [e1,List.count_append,List.count_cons_self,fm]
   omega
theorem LI {t:Tre}:∀ {us:List Tre},t ∈ us->t.pr.length <= (gQ us).length/\tl t.pr <= tl (gQ us)
 | u::us,h=>by
   have e2:gQ (u::us)=u.pr++gQ us:=rfl
   have h2:=To u.pr (gQ us)
   rw [e2,cM]
   rcases cJ.1 h with rfl | h
   . omega
   . have:=LI h
     omega
theorem Gu:∀ (us:List Tre) (acc:aG),(∀ t ∈ us,t.pr.length <= 900/\tl t.pr <= 2500)->gj us acc=if 2500 < (acc++gg us).length then ([],5) else (acc++gg us,0)
 | [],acc,h=>by rw [gj]; simp [gg]
 | t::us,acc,h=>by
   obtain ⟨h1,h2⟩:=h t (by simp)
   have e:eY t.pr=(cL t.pr,0):=by
    unfold eY
    rw [if_neg (by omega),if_neg (by have:(cL t.pr).length=tl t.pr:=rfl; omega)]
   rw [rL,e,if_neg (by simp),Gu us _ fun u hu=>h u (by simp [hu])]
   have e1:acc++gg (t::us)=acc++cL t.pr++[10]++gg us:=by simp [gg]
   rw [e1]
theorem N4:∀ (N:Nat) (ts rW:List Tre) (r r':List Nd),(Tre.bq ts).length <= N->bz (Tre.bq ts++r)=bz (Tre.bq rW++r')->(Tre.bq ts).length=(Tre.bq rW).length->ts.map (fun t=>(t.kind,t.pr))=rW.map (fun t=>(t.kind,t.pr))/\bz r=bz r'
 | N,[],[],_,_,_,h,_=>⟨rfl,by simpa using h⟩
 | N,[],t::ts,_,_,_,_,h=>by have:=t.dE; simp only [Tre.cx,Tre.mq,cM,ko] at h; omega
 | N,t::ts,[],_,_,_,_,h=>by have:=t.dE; simp only [Tre.cx,Tre.mq,cM,ko] at h; omega
 | 0,t::ts,_,_,_,hN,_,_=>by have:=t.dE; simp only [Tre.cx,cM] at hN; omega
 | N+1,.mk k t n m a ks::ts,.mk k' t' n' m' a' ks'::rW,r,r',hN,h,hl=>by
   simp only [bz,Tre.cx,Tre.eA,gE,gi,eh,List.cons.injEq,Nd.mk.injEq,fm,cM] at h hl hN
   obtain ⟨⟨rfl,rfl,rfl,rfl,_,hs⟩,h⟩:=h
   have hs:(Tre.bq ks).length=(Tre.bq ks').length:=by omega
   obtain ⟨e1,h2⟩:=N4 N ks ks' (Tre.bq ts++r) (Tre.bq rW++r') (by omega) h hs
   obtain ⟨e2,h3⟩:=N4 N ts rW r r' (by omega) h2 (by omega)
   refine ⟨?_,h3⟩
   simp only [eh,e2,Tre.cu,e1]
   rfl
theorem BJ:∀ (ts rW:List Tre) (acc:aG),ts.map (fun t=>(t.kind,t.pr))=rW.map (fun t=>(t.kind,t.pr))->gj ts acc=gj rW acc
 | [],[],_,_=>rfl
 | [],_::_,_,h=>by simp at h
 | _::_,[],_,h=>by simp at h
 | t::ts,t'::rW,acc,h=>by
   simp only [eh,List.cons.injEq,gL] at h
   obtain ⟨⟨_,h1⟩,h2⟩:=h
   rw [rL,rL,h1,BJ ts rW _ h2]
theorem Aj {t:Tre} (hc:gp t.flat=0) (h1:t.kind=1):lf t.flat 0=gj t.kids []:=by
 have Pu:nq t.flat 0=0:=by rw [OA]; exact hc
 have:=Ai (n:=0) Pu (gn.whole t)
 rw [show lf t.flat 0=mZ t from this]
 unfold mZ; rw [if_neg (by simp [h1])]
theorem Ze {l l':List Nd} (hc:gp l=0) (rn:gp l'=0) (h:CG l=CG l'):lf l 0=lf l' 0:=by
 obtain ⟨t,rfl,k1,k2,k9,_⟩:=sT hc
 obtain ⟨t',rfl,k1',k2',k9',_⟩:=sT rn
 rw [Aj hc k1,Aj rn k1']
 obtain ⟨_,a,e⟩:=vB k1 k2 k9
 obtain ⟨_,a',e'⟩:=vB k1' k2' k9'
 rw [KX,KX,e,e',Tre.eA,Tre.eA] at h
 have hl:=Hz h
 simp only [fm] at hl
 have h2:bz (Tre.bq t.kids++[])=bz (Tre.bq t'.kids++[]):=by
  simp only [bz,eh,List.cons.injEq,gD] at h ⊢
  exact h.2
 exact BJ _ _ _ (N4 _ _ _ [] [] (bT _) h2 (by omega)).1
theorem Dc {L:List Tk} {E:Nat}:∀ (f:Nat) (acc:List Nd) (i:Nat) {j:Nat} {ns:List Nd},jN L E f acc i=.ok ns j->L.length <= j
 | 0,_,_,_,_,h=>by cases h
 | f+1,acc,i,j,ns,h=>by
   unfold jN at h
   split at h
   . obtain ⟨_,_,_,h⟩:=PR.ah h
     exact Dc f _ _ h
   . obtain ⟨rfl,rfl⟩:=PR.aS h
     omega
theorem NZ {s:aG} {l:List Nd} {p:Int} (h:mx s=(l,p,0)):∃ (L:List Tk) (t:Tre),iM s=.ok L/\l=t.flat/\t.kind=1/\gp l=0/\oz (gQ t.kids) (L.map tx)/\L.length <= 900/\(∀ x ∈ L,kh x)/\s.length <= 2500:=by
 unfold mx at h
 cases hl:iM s with
 | bad q e =>
   rw [hl] at h
   simp only [gL] at h
   exact absurd h.2.2 (B9 hl)
 | ok L =>
   rw [hl] at h
   simp only at h
   obtain ⟨B4,Pr⟩:=wX hl
   have abx:s.length <= 2500:=by
    unfold iM sb at hl
    by_cases um:2500 < s.length
    . rw [if_pos um] at hl; simp at hl
    . omega
   have Wu:=FJ (L:=L) (E:=s.length) (L.length+1) [] 0 (by omega) (by omega)
   cases hp:jN L s.length (L.length+1) [] 0 with
   | bad j=>rw [hp] at h; simp at h
   | out=>rw [hp] at Wu; exact Wu.elim
   | ok ns j =>
     rw [hp] at h
     simp only [gL] at h
     obtain ⟨h1,_,h3⟩:=h
     obtain ⟨m,g1,g2,g3⟩:=B8 B4 Pr _ [] 0 0 hp rS.nil (by omega) (by omega)
     obtain ⟨us,e1,d1⟩:=IP B4 _ [] [] 0 hp (by simp) ⟨bT _,by omega,by unfold wo; exact .nil⟩
     unfold kU at h1 h3
     split at h3
     . simp at h3
     . rename_i hw
       rw [if_neg hw] at h1
       have CX:=GF g1 (by omega)
       rw [if_neg hw] at CX
       refine ⟨L,.mk 1 [] 0 0 0 us,rfl,?_,rfl,by rw [<- h1]; exact CX,?_,Pr,B4,abx⟩
       . rw [<- h1,e1,Tre.eA]; rfl
       . obtain ⟨_,hj,hd⟩:=d1
         have qN:j=L.length:=Nat.le_antisymm hj (Dc _ _ _ hp)
         subst qN
         have:wo L 0 L.length=L.map tx:=by unfold wo; simp
         rw [this] at hd
         exact hd
theorem GN {s:aG} {l:List Nd} {p:Int} (h:mx s=(l,p,0)) :
 gp l=0/\((lf l 0=([],5)/\2500 < s.length+l.length)\/∃ u v,lf l 0=(u,0)/\u.length <= s.length+u.count 10/\u.length <= 2500/\mx u=(v,0,0)/\gp v=0/\lf v 0=(u,0)):=by
 obtain ⟨L,t,hl,rfl,hk,hc,hd,Pr,B4,abx⟩:=NZ h
 refine ⟨hc,?_⟩
 have ht:=Aj hc hk
 have sX:=Yx hl
 have hlen:=hd.len
 have htd:=(hd.tl fun x hx=>by
  obtain ⟨y,hy,rfl⟩:=List.mem_map.1 hx
  exact B4 y hy).1
 rw [List.length_map] at hlen
 rw [Gu _ _ fun u hu=>by have:=LI hu; omega,jY] at ht
 have h1:=LH t.kids
 have h2:=FO t.kids
 have h3:=mL t
 have h4:=Tre.nS t.kids
 by_cases hb:2500 < (gg t.kids).length
 . rw [if_pos hb] at ht
   exact .inl ⟨ht,by omega⟩
 . rw [if_neg hb] at ht
   obtain ⟨_,adI⟩:=My hc ht
   refine .inr ⟨gg t.kids,?_⟩
   obtain ⟨t',e',k1,k2,k9,_⟩:=sT hc
   obtain rfl:=Tre.HV e'
   obtain ⟨UB,_⟩:=vB k1 k2 k9
   rcases adI with ⟨u,q1,q2,q3,q4⟩ | ⟨q,q1,q2⟩
   . exact ⟨u,ht,by omega,by omega,q1,q3,by rw [Ze q3 hc q2]; exact ht⟩
   . obtain ⟨L2,_,q3⟩:=(LP (fun c rn=>(UB c rn).1) (by omega)).1 (by omega)
     rw [q3] at q2; cases q2
end Go.Rip
namespace Go.Rip
open Go.Proofs Go.RowKit
theorem MT (s:aG) (hs:s.length <= 100000):Pure K 32 [.str s] (.int .i64 (s.count 10:Nat)):=by
 refine Pure.of rfl rfl (fun U=>rfl) fun R hR=>?_
 refine Vn ?_
 unfold Xl
 refine ⟨fun m w0 w3 w4 ad=>∃ i:Nat,m=s.length - i/\i <= s.length/\w0=.str s/\w3=.int .i64 ((s.take i).count 10:Nat)/\w4=.int .i64 (i:Nat),⟨_,0,rfl,by omega,rfl,by simp,rfl⟩,?_⟩
 rintro m w0 w3 w4 ad ⟨i,rfl,hi,rfl,rfl,rfl⟩
 rw [mc,aj,cq,aj]
 refine iv (fun aQ=>?_) fun lI=>?_
 . have aQ:i < s.length:=by omega
   obtain ⟨c,hc⟩:∃ c,s[i]?=some c:=⟨s[i],by simp [aQ]⟩
   have pN:s.take (i+1)=s.take i++[c]:=by rw [sx,hc]; rfl
   have agX:(s.take i).count 10 <= i:=by
    have:=List.count_le_length (a:=(10:UInt8)) (l:=s.take i)
    rw [List.length_take] at this; omega
   intro j hj
   have tail:∀ n:Nat,n=(s.take (i+1)).count 10->j (.str s) (.int .i64 (n:Nat)) (.int .i64 (i:Nat)) ad:=by
    intro n hn
    refine hj _ _ _ _ ?_
    dsimp only
    rw [dO]
    exact ⟨bK (by omega) (by omega),s.length - (i+1),by omega,i+1,rfl,by omega,rfl,by rw [hn],by simp⟩
   rw [yE]
   refine ⟨by omega,?_⟩
   have Wu:s.getD (i:Int).toNat 0=c:=by rw [jH,nG,hc]; rfl
   rw [Wu,bu,aj]
   refine iv (fun nw=>?_) fun nw=>tail _ ?_
   . have Uv:c=10:=UInt8.toNat_inj.1 (show c.toNat=10 by omega)
     rw [dO]
     refine ⟨bK (by omega) (by omega),?_⟩
     have:=tail ((s.take i).count 10+1) (by rw [pN,List.count_append,Uv]; rfl)
     simpa using this
   . have Uv:c ≠ 10:=fun e=>nw (by rw [e]; rfl)
     rw [pN,List.count_append,List.count_singleton,if_neg (by simpa using Uv),Nat.add_zero]
 . rw [qD (by omega)]
   exact al.mk (hR _)
section
variable {gv:AV} {k:AV->Prop} {bt:BT} {b:Bool} {x y:Int} {i:IntKind}
theorem abO (h:x <= y) (hk:k (.bool true)):aB K (aw .leq bt b (.int i x) (.int i y)) k:=by rw [lq,aJ,decide_eq_true h]; exact hk
end
theorem JF (s:aG):Pure K 6 [.str s] (.bool true):=by
 refine Pure.of rfl rfl (fun U=>rfl) fun R hR=>?_
 refine Y5 ?_
 unfold ab9
 rw [mc,aj,eQ,aj]
 refine iv (fun h=>tK.go (al.mk (hR _))) fun h=>?_
 have hs:s.length <= 3000:=by omega
 refine (Du s hs).go ?_
 obtain ⟨l,p,e,hp⟩:∃ l p e,mx s=(l,p,e):=⟨_,_,_,rfl⟩
 rw [hp]
 simp only [zS,bD,List.drop,bC]
 rw [cZ]
 intro b3 lu
 have m3:((bV ⟨.e,0⟩).new b3 (.box [AV.aq])).box b3=some [.aq]:=aK
 generalize (bV _).new b3 _=au at *
 rw [dk m3]
 refine ⟨⟨rfl,rfl,by simp⟩,?_⟩
 have m3:(au.set b3 (.box (aA [AV.aq] 0 (ax (.agg [mO l]))))).box b3=some [mO l]:=by rw [a7]; rfl
 generalize au.set b3 _=aR at *
 refine Tw ?_
 by_cases he:e=0
 rotate_left
 . simp only [he,eX,fD]
   exact eH (tK.go (al.mk (hR _)))
 subst he
 simp only [dZ,du]
 refine eF ?_
 obtain ⟨hc,adN⟩:=GN hp
 have abE:∀ {l:List Nd},gp l=0->l.length <= 900:=fun {l} hc=>Nat.le_of_not_lt fun h=>by unfold gp at hc; rw [if_pos h] at hc; cases hc
 have hl:=abE hc
 have qR:∀ x ∈ l,x.text.length <= 3000:=fun x hx=>by have:=DF hc x hx; omega
 have cv:=Ey l
 refine tV m3 ((OX cv (by omega)).go ((Dy cv (by omega) qR).go ?_))
 simp only [bD,List.drop,bC]
 rcases adN with ⟨ht,agV⟩ | ⟨u,v,ht,hlen,ag3,hpu,Wq,htv⟩
 . rw [ht]
   refine pP rfl ?_
   rw [aj]
   refine iz (eO m3 rfl ?_)
   rw [cv.s.len,aj,dO]
   refine ⟨bK (by omega) (by omega),?_⟩
   rw [eQ,aj,decide_eq_true (by omega)]
   exact Fl rfl (oN tK (EW (al.mk (hR _))))
 . rw [ht]
   refine fS (show (0:Int) ≠ 5 by decide) ((Du u (by omega)).go ?_)
   rw [hpu]
   simp only [zS,bD,List.drop,bC]
   rw [cZ]
   intro b8 sU
   have m8:(aR.new b8 (.box [AV.aq])).box b8=some [.aq]:=aK
   generalize aR.new b8 (.box [AV.aq])=bh at *
   rw [dk m8]
   refine ⟨⟨rfl,rfl,by simp⟩,?_⟩
   have m8:(bh.set b8 (.box (aA [AV.aq] 0 (ax (.agg [mO v]))))).box b8=some [mO v]:=by rw [a7]; rfl
   generalize bh.set b8 _=bW at *
   have iH:=abE Wq
   have hvt:∀ x ∈ v,x.text.length <= 3000:=fun x hx=>by have:=DF Wq x hx; omega
   refine tV m8 ((Dy (Ey v) (by omega) hvt).go ?_)
   simp only [bD,List.drop,bC]
   rw [htv]
   refine acJ rfl (DA rfl rfl (DA rfl rfl (DA rfl rfl (Fl rfl (oN (MT u (by omega)) (Fl rfl ?_))))))
   have CX:=List.count_le_length (a:=(10:UInt8)) (l:=u)
   rw [Xc]
   refine ⟨bK (by omega) (by omega),DA rfl rfl (DA rfl rfl (Fl rfl (abO (by omega) (EW ?_))))⟩
   refine DA rfl rfl (Fl rfl (QN rfl (EW (DA rfl rfl (Fl rfl (QN rfl (EW (DA rfl rfl (DA rfl rfl (Fl rfl (abP rfl (EW (Fl rfl (oN tK (EW (al.mk (hR _)))))))))))))))))
end Go.Rip
