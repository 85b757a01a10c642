/- Lemmas for the proof: no conditions. -/
import Derived.Test.YtnfpmiiopiinbaaGreatDoorRipZz
import Derived.Test.YtnfpmiiopiinbaaGreatDoorRipYi
import Derived.Test.YtnfpmiiopiinbaaGreatDoorRipS
import Derived.Test.YtnfpmiiopiinbaaGreatDoorRipG
import Derived.Test.YtnfpmiiopiinbaaGreatDoorRipX
import Derived.Test.YtnfpmiiopiinbaaGreatDoorRipYc
import Derived.Test.YtnfpmiiopiinbaaGreatDoorRipYb
import Derived.Test.YtnfpmiiopiinbaaGreatDoorRipC
import Derived.Test.YtnfpmiiopiinbaaGreatDoorRipAw
set_option linter.unusedVariables false
set_option linter.unusedSimpArgs false
set_option linter.loopingSimpArgs false
set_option linter.unusedSectionVars false
namespace Go.Rip
inductive pk:List Tx->List Tx->Prop where
 | nil:pk [] []
 | cons {a b:List Tx} (x:Tx) (h:pk a b):pk (x::a) (x::b)
 | drop {a b:List Tx} (x:Tx) (h:pk a b):pk a (x::b)
 | RR {a b:List Tx} (x:Tx) (hx:x.1≠4) (h:pk a b):pk (aB pX::a) (aB gY::x::b)
 | RE {a b:List Tx} (x:Tx) (hx:x.1≠4) (h:pk a b):pk (aB lP::a) (aB gY::x::b)
theorem pk.refl:∀ l:List Tx,pk l l
 | []=>.nil
 | x::l=>.cons x (pk.refl l)
theorem pk.app {a b a' b':List Tx} (h:pk a b) (k:pk a' b'):pk (a++a') (b++b'):=by
 induction h with
 | nil=>exact k
 | cons x _ ih=>exact .cons x ih
 | drop x _ ih=>exact .drop x ih
 | RR x hx _ ih=>exact .RR x hx ih
 | RE x hx _ ih=>exact .RE x hx ih
theorem pk.len {a b:List Tx} (h:pk a b):a.length<=b.length:=by
 induction h with
 | nil=>exact bX _
 | cons x _ ih=>simp only[eX]; omega
 | drop x _ ih=>simp only[eX]; omega
 | RR x _ _ ih=>simp only[eX]; omega
 | RE x _ _ ih=>simp only[eX]; omega
def tl (l:List Tx):Nat:=(cR l).length
theorem jF (a b:Tx) (l:List Tx):tl (a::b::l)=a.2.length+(if fG a b then 1 else 0)+tl (b::l):=by
 unfold tl;rw[nA,cO,cO];split<;>simp
theorem yz (a:Tx):tl [a]=a.2.length:=rfl
theorem BO:tl []=0:=rfl
theorem vY (a:Tx) (l:List Tx):a.2.length+tl l<=tl (a::l)/\tl (a::l)<=a.2.length+1+tl l:=by
 cases l with
 | nil=>rw[yz,BO]; omega
 | cons b l=>rw[jF]; split<;>omega
theorem afy (p x:Tx) (hx:x.2≠[]) (l:List Tx):tl (p::l)<=tl (p::x::l):=by
 have mD:0<x.2.length:=List.length_pos_iff.2 hx;have h1:=(vY p l).2;have h2:=(vY x l).1;rw[jF];omega
theorem aaZ {x y q:Tx} (hx:x.1≠4) (hy:y.1≠4) (h1:x.2≠dk) (h2:y.2≠dk):fG x q=fG y q:=by
 have e1:(x.1 != 4)=true:=by simp[hx]
 have e2:(y.1 != 4)=true:=by simp[hy]
 have e3:(x.2==dk)=false:=by simp[h1]
 have e4:(y.2==dk)=false:=by simp[h2]
 unfold fG;rw[e1,e2,e3,e4]
theorem OZ {x y:Tx} (hx:x.1≠4) (hy:y.1≠4) (h1:x.2≠dk) (h2:y.2≠dk) (l:List Tx):tl (x::l)+y.2.length=tl (y::l)+x.2.length:=by
 cases l with
 | nil=>rw[yz,yz]; omega
 | cons q l=>rw[jF,jF,aaZ hx hy h1 h2]; omega
theorem JG {s:aG} (h:s.all dj=true):s≠dk:=by rintro rfl; exact absurd h (by decide)
theorem pk.tl {a b:List Tx} (h:pk a b) (hb:∀ x∈b,jK x):Rip.tl a<=Rip.tl b/\∀ p:Tx,Rip.tl (p::a)<=Rip.tl (p::b):=by
 induction h with
 | nil=>exact⟨bX _,λ p=>bX _⟩
 | @cons a b x h ih =>
   obtain⟨i1,i2⟩:=ih λ y hy=>hb y (by simp[hy]);refine⟨i2 x,λ p=>?_⟩;have:=i2 x;rw[jF,jF]; omega
 | @drop a b x h ih =>
   obtain⟨i1,i2⟩:=ih λ y hy=>hb y (by simp[hy]);have hx:=(hb x (by simp)).1;refine⟨?_,λ p=>Nat.le_trans (i2 p) (afy p x hx b)⟩;have:=(vY x b).1;omega
 | @RR a b x hx h ih =>
   obtain⟨i1,i2⟩:=ih λ y hy=>hb y (by simp[hy]);have Hz:=hb x (by simp);obtain⟨_,_,_,_,_,_,_,_,_,hn⟩:=vZ Hz;have mD:0<x.2.length:=List.length_pos_iff.2 Hz.1;have hsw:=OZ (x:=aB pX) (y:=x) (by decide) hx (by decide) (JG (hn hx).1) a;have hi:=i2 x;have e1:(aB pX).2.length=3:=rfl;have e2:(aB gY).2.length=3:=rfl;refine⟨?_,λ p=>?_⟩
   . rw[jF]; omega
   . have ha:fG p (aB pX)=fG p (aB gY):=by unfold fG; rfl
     rw[jF,jF,jF,ha];omega
 | @RE a b x hx h ih =>
   obtain⟨i1,i2⟩:=ih λ y hy=>hb y (by simp[hy]);have Hz:=hb x (by simp);obtain⟨_,_,_,_,_,_,_,_,_,hn⟩:=vZ Hz;have mD:0<x.2.length:=List.length_pos_iff.2 Hz.1;have hsw:=OZ (x:=aB lP) (y:=x) (by decide) hx (by decide) (JG (hn hx).1) a;have hi:=i2 x;have e1:(aB lP).2.length=4:=rfl;have e2:(aB gY).2.length=3:=rfl;have xX:fG (aB gY) x=true:=by
    unfold fG;have e3:(x.1 != 4)=true:=by simp[hx]
    rw[e3]; rfl
   refine⟨?_,λ p=>?_⟩
   . rw[jF,xX,if_pos rfl]; omega
   . have ha:fG p (aB lP)=fG p (aB gY):=by unfold fG; rfl
     rw[jF,jF,jF,ha,xX,if_pos rfl];omega
def Nb (a:Tx) (t:aG):Prop:=(a.1≠4->∀ c r,t=c::r->dj c=false)/\(a.2=dk->∀ c r,t=c::r->c≠61)
theorem O3 {p:UInt8->Bool}:∀ (s:aG),∀ c r,s.drop (s.takeWhile p).length=c::r->p c=false
 | [],c,r,h=>by simp at h
 | x::s,c,r,h=>by
   rw[mV]at h;cases hx:p x with
   | true=>rw[hx,if_pos rfl,eX,List.drop_succ_cons]at h; exact O3 s c r h
   | false =>
     rw[hx,if_neg (by simp)]at h;simp only[k0,eG,List.cons.injEq]at h;rw[<- h.1]; exact hx
theorem O0 {p:UInt8->Bool}:∀ s:aG,(s.takeWhile p).all p=true
 | []=>rfl
 | x::s=>by
   rw[mV];cases hx:p x with
   | true=>rw[if_pos rfl,List.all_cons,hx,O0 s]; rfl
   | false=>rw[if_neg (by simp)]; rfl
theorem Mo {p:UInt8->Bool}:∀ s:aG,s=s.takeWhile p++s.drop (s.takeWhile p).length
 | []=>rfl
 | x::s=>by
   rw[mV];cases hx:p x with
   | true=>rw[if_pos rfl,eX,List.drop_succ_cons,dK,<- Mo s]
   | false=>rw[if_neg (by simp)]; rfl
theorem YS {s:aG} {k:Nat} {w:aG} (h:iK s=(0,k,w)) (h0:s≠[]):s=w++s.drop w.length/\Nb (k,w) (s.drop w.length)/\w≠[]:=by
 unfold iK at h;simp only at h;split at h
 . rename_i hw;split at h
   . rename_i x hx;simp only[hY,true_and]at h;obtain⟨rfl,rfl⟩:=h;have hp:=List.find?_some hx;have hm:=List.mem_of_find?_eq_some hx;obtain⟨t,ht⟩:=List.isPrefixOf_iff_prefix.1 hp;have hd:s.drop x.length=t:=by rw[<- ht,List.drop_left]
     refine⟨by rw[hd,ht],⟨λ h=>absurd rfl h,λ KP c r hc=>?_⟩,?_⟩
     . rintro rfl;have KP:x=dk:=KP;subst KP;rw[hd]at hc;subst hc;rw[<- ht]at hx;exact absurd hx (by simp[jt,bQ,dk,List.isPrefixOf])
     . rintro rfl;exact absurd hm (by decide)
   . simp at h
 . rename_i c r hw;have ca:s.takeWhile dj≠[]:=by rw[hw]; simp
   have key:w=s.takeWhile dj->k≠4->s=w++s.drop w.length/\Nb (k,w) (s.drop w.length)/\w≠[]:=by
    intro e hk;subst e;exact⟨Mo s,⟨λ _ c r h=>O3 s c r h,λ h=>absurd h (JG (O0 s))⟩,ca⟩
   split at h
   . simp only[hY]at h;exact key (by rw[<- h.2.2,hw]) (by rw[<- h.2.1]; decide)
   . split at h
     . simp at h
     . split at h
       . simp only[hY]at h;exact key (by rw[<- h.2.2,hw]) (by rw[<- h.2.1]; decide)
       . split at h
         . simp at h
         . simp only[hY]at h;exact key (by rw[<- h.2.2,hw]) (by rw[<- h.2.1]; decide)
theorem XP {a:Tx} {c:UInt8} {t:aG} (h:Nb a (c::t)) (b:Tx) (hb:jK b) (k:∃ r,c::t=b.2++r):fG a b=false:=by
 obtain⟨r,hr⟩:=k;obtain⟨d,e,he,_,_,_,_,Zo,h4,hn⟩:=vZ hb;rw[he,dK]at hr;obtain⟨rfl,_⟩:=List.cons.inj hr;unfold fG;have n1:(a.1 != 4&&b.1 != 4)=false:=by
  by_cases ha:a.1=4
  . simp[ha]
  . have:=h.1 ha c t rfl
    by_cases gk:b.1=4
    . simp[gk]
    . have:=fm.1 (hn gk).1 c (by rw[he]; simp)
      simp_all
 have n2:(a.2==dk&&b.2==gP)=false:=by
  by_cases ha:a.2=dk
  . have h':=h.2 ha c t rfl
    by_cases gk:b.2=gP
    . rw[gk]at he;have:c=61:=by
       have:=congrArg List.head? he;simpa [gP] using this.symm
      exact absurd this h'
    . simp[gk]
  . simp[ha]
 rw[n1,n2]; rfl
theorem Lb {acc l:List Tk} (h:yJ.ok acc=yJ.ok (acc++l)):l=[]:=by
 injection h with h
 have:=congrArg List.length h;rw[cO]at this;exact rL.1 (by omega)
theorem zf:∀ (f:Nat) (s:aG) (p:Nat) (acc X:List Tk),eR f s p acc=.ok X->∃ l,X=acc++l
 | 0,s,p,acc,X,h=>by
   simp only[eR,yJ.ok.injEq]at h;exact⟨[],by simp[h]⟩
 | f+1,s,p,acc,X,h=>by
   simp only[eR]at h;split at h
   . simp only[yJ.ok.injEq]at h;exact⟨[],by simp[h]⟩
   . split at h
     . exact zf f s _ acc X h
     . split at h
       . exact zf f s _ acc X h
       . split at h
         . cases h
         . split at h
           . cases h
           . obtain⟨l,hl⟩:=zf f s _ _ X h;exact⟨_,by rw[hl,dc]⟩
theorem Lc {s:aG}:∀ (f p:Nat) (acc l:List Tk),eR f s p acc=.ok (acc++l)->tl (l.map tx)<=s.length-p/\∀ a:Tx,Nb a (s.drop p)->tl (a::l.map tx)<=a.2.length+(s.length-p)
 | 0,p,acc,l,h=>by
   rw[eR]at h;obtain rfl:=Lb h;exact⟨by simp[BO],λ a _=>by simp[yz]⟩
 | f+1,p,acc,l,h=>by
   rw[eR]at h;split at h
   . obtain rfl:=Lb h;exact⟨by simp[BO],λ a _=>by simp[yz]⟩
   . rename_i c r hd;have aN:p<s.length:=by
      have:=congrArg List.length hd;simp at this; omega
     have skip:∀ q,p<q->eR f s q acc=.ok (acc++l)->tl (l.map tx)<=s.length-p/\∀ a:Tx,Nb a (s.drop p)->tl (a::l.map tx)<=a.2.length+(s.length-p):=by
      intro q hq hl;obtain⟨i1,_⟩:=Lc f q acc l hl;refine⟨by omega,λ a _=>?_⟩;have:=(vY a (l.map tx)).2;omega
     split at h
     . exact skip _ (by omega) h
     . split at h
       . rename_i AP;refine skip _ ?_ h;have:0<((c::r).takeWhile λ c=>c.toNat≠10).length:=by
          rw[mV,if_pos (by simp[AP])]; simp
         omega
       . split at h;rename_i e k t ht;split at h
         . cases h
         . rename_i he;split at h
           . cases h
           . have he:e=0:=Decidable.not_not.1 he;subst he;obtain⟨q1,q2,q3⟩:=YS ht (by simp);have qV:s.drop (p+t.length)=(c::r).drop t.length:=by rw[<- List.drop_drop,hd]
             obtain⟨l',qW⟩:∃ l',l=⟨k,t,p⟩::l':=by
              obtain⟨l2,pP⟩:=zf f s (p+t.length) (acc++[⟨k,t,p⟩]) _ h;rw[dc]at pP;exact⟨l2,List.append_cancel_left pP⟩
             subst qW;rw[show acc++(⟨k,t,p⟩:Tk)::l'=(acc++[⟨k,t,p⟩])++l' by simp]at h;obtain⟨i1,i2⟩:=Lc f _ _ l' h;have mD:0<t.length:=List.length_pos_iff.2 q3;have hle:p+t.length<=s.length:=by
              have:=congrArg List.length q1;have h2:=congrArg List.length hd;simp only[cO,List.length_drop]at this h2;omega
             have key:=i2 (k,t) (by rw[qV]; exact q2);refine⟨?_,λ a ha=>?_⟩
             . have key:tl ((k,t)::l'.map tx)<=t.length+(s.length-(p+t.length)):=key;show tl ((k,t)::l'.map tx)<=_;omega
             . have key:tl ((k,t)::l'.map tx)<=t.length+(s.length-(p+t.length)):=key;show tl (a::(k,t)::l'.map tx)<=_;have hto:jK (k,t):=(Cz ht).1;rw[hd]at ha;rw[jF,XP ha (k,t) hto ⟨_,q1⟩,if_neg (by simp)];omega
theorem Ow {s:aG} {L:List Tk} (h:ix s=.ok L):tl (L.map tx)<=s.length:=by
 unfold ix at h;split at h;split at h
 . cases h
 . have:=(Lc s.length 0 [] L (by simpa using h)).1;omega
theorem WM (a:Int) (s:aG) (c:UInt8):lT a (s++[c])=10*lT a s+((c.toNat:Int)-48):=by simp[lT]
theorem JY:∀ (s:aG) (a:Int),s.all gK=true->1<=a->1<=lT a s
 | [],a,_,h=>h
 | c::s,a,hs,h=>by
   simp only[List.all_cons,cb]at hs;have hc:=jA.1 hs.1;exact JY s (10*a+((c.toNat:Int)-48)) hs.2 (by omega)
theorem JX:∀ (s:aG) (a:Int),s.all gK=true->0<=a->0<=lT a s
 | [],a,_,h=>h
 | c::s,a,hs,h=>by
   simp only[List.all_cons,cb]at hs;have hc:=jA.1 hs.1;exact JX s (10*a+((c.toNat:Int)-48)) hs.2 (by omega)
theorem HJ:∀ (f:Nat) (s:aG),s≠[]->s.all gK=true->¬ (1<s.length/\s.head?=some 48)->lT 0 s<10 ^ f->s.length<=f->lV f (lT 0 s).toNat=s
 | 0,s,h0,_,_,_,hl=>by exact absurd (rL.1 (by omega)) h0
 | f+1,s,h0,hd,hz,aN,hl=>by
   rcases List.eq_nil_or_concat s with rfl|⟨s',c,rfl⟩
   . exact absurd rfl h0
   rw[List.concat_eq_append]at *;rw[List.all_append,cb]at hd;have hc:48<=c.toNat/\c.toNat<=57:=jA.1 (by simpa using hd.2);have h0':=JX s' 0 hd.1 (by omega);rw[WM]at aN ⊢;have Zu:∀ n:Nat,(n:Int)=(c.toNat:Int)-48->(48+n).toUInt8=c:=λ n hn=>by
    apply UInt8.toNat_inj.1;simp[Nat.toUInt8,UInt8.toNat_ofNat']; omega
   unfold lV;cases s' with
   | nil =>
     have e:lT 0 []=0:=rfl;rw[e];rw[if_pos (by omega),Zu _ (by omega)]; rfl
   | cons d s'' =>
     simp only[List.all_cons,cb]at hd;have hdd:=jA.1 hd.1.1;have aex:d≠48:=λ e=>hz ⟨by simp,by simp[e]⟩;have hdn:d.toNat≠48:=λ e=>aex (UInt8.toNat_inj.1 e);have h1:1<=lT 0 (d::s''):=JY s'' (10*0+((d.toNat:Int)-48)) hd.1.2 (by omega);generalize hv:lT 0 (d::s'')=v at *;rw[if_neg (by omega)];have e1:(10*v+((c.toNat:Int)-48)).toNat / 10=v.toNat:=by omega
     have e2:(10*v+((c.toNat:Int)-48)).toNat%10=c.toNat-48:=by omega
     rw[e1,e2,Zu _ (by omega)];have hp:(10:Int) ^ (f+1)=10*10 ^ f:=by rw[Int.pow_succ]; omega
     have ih:=HJ f (d::s'') (by simp) (by simp[hd.1.1,hd.1.2]) (λ h=>aex (by simpa using h.2)) (by rw[hv]; omega) (by simp at hl ⊢; omega);rw[hv]at ih;rw[ih]
theorem WN {s:aG} (h0:s≠[]) (h:pI s=0):nH (tn s)=s:=by
 obtain⟨h1,h2,_⟩:=Cm h;obtain⟨_,h7,_,_,h6⟩:=wQ h0 h;have hp:(1000000:Int)<10 ^ 20:=by decide
 exact HJ 20 s h0 h1 h2 (by show tn s<_; omega) (by omega)
end Go.Rip
namespace Go.Rip
def xK (L:List Tk) (i j:Nat):List Tx:=((L.drop i).take (j-i)).map tx
def Dr (L:List Tk) (i j:Nat) (l:List Tx):Prop:=i<=j/\j<=L.length/\pk l (xK L i j)
section
variable {L:List Tk} {E:Nat} {i j k:Nat} {l l':List Tx} {w:aG}
theorem L5 (h1:i<=j) (h2:j<=k):xK L i j++xK L j k=xK L i k:=by
 unfold xK;have:k-i=(j-i)+(k-j):=by omega
 rw[this,List.take_add,List.drop_drop,List.map_append,show i+(j-i)=j by omega]
theorem Dr.app (h:Dr L i j l) (h':Dr L j k l'):Dr L i k (l++l'):=by
 obtain⟨a1,a2,a3⟩:=h;obtain⟨b1,b2,b3⟩:=h';refine⟨by omega,b2,?_⟩;rw[<- L5 a1 b1];exact a3.app b3
theorem yp {t:Tk} (h:L[i]?=some t):xK L i (i+1)=[tx t]:=by
 have aN:=(dp.1 h).1;have he:=(dp.1 h).2;unfold xK;rw[gM aN,he,show i+1-i=1 by omega]; rfl
theorem Dr.one {t:Tk} (h:L[i]?=some t):Dr L i (i+1) [tx t]:=⟨by omega,(dp.1 h).1,by rw[yp h]; exact pk.refl _⟩
theorem Dr.skip {t:Tk} (h:L[i]?=some t):Dr L i (i+1) []:=⟨by omega,(dp.1 h).1,by rw[yp h]; exact .drop _ .nil⟩
variable (hL:∀ t∈L,kB t)
include hL
theorem FU (hw:w∈lW++jt) (h:bm L i w=true):∃ t,L[i]?=some t/\tx t=aB w:=by
 obtain⟨t,ht,_,hs⟩:=wF h;have h1:=hL t (gw ht);have h2:=aaY w hw;refine⟨t,ht,Prod.ext ?_ hs⟩;have e1:=h1.2;have e2:=h2.2;have e3:(aB w).2=w:=rfl;rw[e3]at e2;rw[hs,e2]at e1;simp only[hY,true_and]at e1;exact e1.1.symm
theorem Dr.wd (hw:w∈lW++jt) (h:bm L i w=true):Dr L i (i+1) [aB w]:=by
 obtain⟨t,ht,e⟩:=FU hL hw h;rw[<- e]; exact Dr.one ht
theorem Dr.need {u:Unit} (hw:w∈lW++jt) (h:bM L w i=.ok u j):Dr L i j [aB w]:=by
 have hj:=cT h;unfold bM at h;split at h
 . rename_i hh; rw[hj]; exact Dr.wd hL hw hh
 . cases h
omit hL in
theorem Dr.name {x:aG} (h:gX L i=.ok x j):Dr L i j [eK x]:=by
 have hj:=kG h;unfold gX at h;split at h
 . rename_i t ht;split at h
   . rename_i hk;obtain⟨rfl,rfl⟩:=PR.aW h;have:tx t=eK t.s:=Prod.ext hk rfl;rw[<- this]; exact Dr.one ht
   . cases h
 . cases h
theorem Dr.num {n:Int} (h:jo L i=.ok n j):Dr L i j [jh n]/\∃ t,L[i]?=some t/\j=i+1/\(tx t).1≠4/\tx t=jh n:=by
 have hj:=o7 h;unfold jo at h;split at h
 . rename_i t ht;split at h
   . rename_i hk;obtain⟨rfl,rfl⟩:=PR.aW h;have hm:=hL t (gw ht);have:tx t=jh (tn t.s):=Prod.ext hk (by show t.s=nH _; rw[WN hm.1 (Gz hm hk)]);refine⟨by rw[<- this]; exact Dr.one ht,t,ht,rfl,?_,this⟩;show t.k≠4;omega
   . cases h
 . cases h
omit hL
def D1 (L:List Tk) (lev i:Nat) (ns:List Nd) (j:Nat):Prop:=∃ t:Tre,ns=t.flat/\∀ least,least<=lev->Dr L i j (dP t.kind least t.pr)
theorem D1.low {lev Bc:Nat} {ns:List Nd} (h:D1 L lev i ns j) (hl:Bc<=lev):D1 L Bc i ns j:=by
 obtain⟨t,h1,h2⟩:=h;exact⟨t,h1,λ least hle=>h2 least (by omega)⟩
theorem RG {k:Int} {least:Nat} (h:least<=bP k) (l:List Tx):dP k least l=l:=by unfold dP; rw[if_pos h]
theorem Pr (k:Int) (l:List Tx):dP k 0 l=l:=RG (Nat.zero_le _) l
theorem et {lev:Nat} {kd:Int} {x:aG} {n m a:Int} {ns:List Nd} (ts:List Tre) (SF:ns=Tre.bu ts) (aiN:lev<=bP kd) (h:Dr L i j (Tre.mk kd x n m a ts).pr):D1 L lev i (node kd x n m a ns) j :=
 ⟨.mk kd x n m a ts,by rw[Tre.dZ,SF]; rfl,λ least hle=>by rw[RG (by show least<=bP kd; omega)]; exact h⟩
def DN (L:List Tk) (w:aG) (i:Nat) (ns:List Nd) (j:Nat):Prop:=∃ ts:List Tre,ns=Tre.bu ts/\ts≠[]/\Dr L i j (dh w (ts.map Tre.pr))
theorem D1.n {ns:List Nd} (h:D1 L 0 i ns j):DN L w i ns j:=by
 obtain⟨t,h1,h2⟩:=h;have:=h2 0 (bX _);rw[Pr]at this;exact⟨[t],by simp[h1],by simp,by simpa [dh] using this⟩
theorem DN.snoc {i1 k:Nat} {ns Ie:List Nd} (h:DN L w i ns j) (hw:Dr L j i1 [aB w]) (hk:D1 L 0 i1 Ie k):DN L w i (ns++Ie) k:=by
 obtain⟨ts,h1,h2,h3⟩:=h;obtain⟨t,k1,k2⟩:=hk;have k2:=k2 0 (bX _);rw[Pr]at k2;refine⟨ts++[t],by rw[h1,k1,Tre.fy]; simp,by simp,?_⟩;rw[List.map_append,List.map_singleton,BG w t.pr (by simpa using h2)];exact h3.app (hw.app k2)
variable (hL:∀ t∈L,kB t)
include hL
theorem B3 {ns:List Nd} (h:gn L E i=.ok ns j):D1 L 0 i ns j:=by
 unfold gn at h;split at h
 . rename_i hw;obtain⟨rfl,rfl⟩:=PR.aW h;refine et [] (by simp) (Nat.zero_le _) ?_;rw[Tre.cG]; simpa [aV] using Dr.wd hL (by decide) hw
 . split at h
   . rename_i hw;obtain⟨rfl,rfl⟩:=PR.aW h;refine et [] (by simp) (Nat.zero_le _) ?_;rw[Tre.cG]; simpa [aV] using Dr.wd hL (by decide) hw
   . split at h
     . rename_i hw;obtain⟨n,_,h1,h⟩:=PR.ai h;obtain⟨rfl,rfl⟩:=PR.aW h;refine et [] (by simp) (Nat.zero_le _) ?_;rw[Tre.cG]; simpa [aV] using (Dr.wd hL (by decide) hw).app (Dr.num hL h1).1
     . obtain⟨_,j1,h1,h⟩:=PR.ai h;obtain⟨n,j2,h2,h⟩:=PR.ai h;obtain⟨rfl,rfl⟩:=PR.aW h;refine et [] (by simp) (Nat.zero_le _) ?_;have d1:=Dr.need hL (w:=gY) (by decide) h1;obtain⟨d2,t,ht,hj,h4,e⟩:=Dr.num hL h2;have d12:=d1.app d2;rw[Tre.cG]
       by_cases c1:n=1
       . subst c1;obtain⟨a1,a2,a3⟩:=d12;refine⟨a1,a2,?_⟩;have s9:=cT h1;have CZ:xK L i j2=[aB gY,tx t]:=by
          rw[<- L5 (L:=L) (i:=i) (j:=j1) (k:=j2) (by omega) (by omega),hj,yp ht];unfold bM at h1;split at h1
          . rename_i hw;obtain⟨u,hu,eu⟩:=FU hL (by decide) hw;rw[s9,yp hu,eu]; rfl
          . cases h1
         rw[CZ];simpa [aV] using pk.RR (tx t) h4 .nil
       . by_cases c2:n=2
         . subst c2;obtain⟨a1,a2,a3⟩:=d12;refine⟨a1,a2,?_⟩;have s9:=cT h1;have CZ:xK L i j2=[aB gY,tx t]:=by
            rw[<- L5 (L:=L) (i:=i) (j:=j1) (k:=j2) (by omega) (by omega),hj,yp ht];unfold bM at h1;split at h1
            . rename_i hw;obtain⟨u,hu,eu⟩:=FU hL (by decide) hw;rw[s9,yp hu,eu]; rfl
            . cases h1
           rw[CZ];simpa [aV] using pk.RE (tx t) h4 .nil
         . simpa [aV,c1,c2] using d12
theorem Ny {ns:List Nd} (h:lS L E i=.ok ns j):D1 L 0 i ns j:=by
 unfold lS at h;obtain⟨x,_,h1,h⟩:=PR.ai h;obtain⟨rfl,rfl⟩:=PR.aW h;refine et [] (by simp) (Nat.zero_le _) ?_;rw[Tre.cG]; simpa [aV] using Dr.name h1
theorem Oy {one:Nat->PR (List Nd)} (h1:∀ {i j ns},one i=.ok ns j->D1 L 0 i ns j):∀ (f:Nat) (acc:List Nd) (i0 i:Nat) {j:Nat} {ns:List Nd},mO L one f acc i=.ok ns j->DN L cH i0 acc i->DN L cH i0 ns j
 | 0,_,_,_,_,_,h,_=>by cases h
 | f+1,acc,i0,i,j,ns,h,ha=>by
   unfold mO at h;split at h
   . rename_i hw;obtain⟨_,_,h2,h⟩:=PR.ai h;exact Oy h1 f _ i0 _ h (ha.snoc (Dr.wd hL (by decide) hw) (h1 h2))
   . obtain⟨rfl,rfl⟩:=PR.aW h;exact ha
theorem Gq {one:Nat->PR (List Nd)} (h1:∀ {i j ns},one i=.ok ns j->D1 L 0 i ns j) {f:Nat} {ns:List Nd} (h:jW L one f i=.ok ns j):DN L cH i ns j:=by
 unfold jW at h;obtain⟨_,_,h2,h⟩:=PR.ai h;exact Oy hL h1 f _ i _ h (h1 h2).n
omit hL
theorem X3 {ts:List Tre} {t:Tre} {x:aG} {n m a:Int}:(Tre.mk 8 x n m a (ts++[t])).pr=[aB bK]++(dh cH (ts.map Tre.pr)++([aB bJ]++([aB fY]++t.pr))):=by
 rw[Tre.cG];have e1:(ts++[t]).map (λ t=>(t.kind,t.pr))=(ts.map λ t=>(t.kind,t.pr))++[(t.kind,t.pr)]:=by simp
 rw[e1];generalize hq:ts.map (λ t=>(t.kind,t.pr))=q;have e3:ts.map Tre.pr=q.map (·.2):=by rw[<- hq,List.map_map]; rfl
 rw[e3];simp[aV,oC]
theorem ahp {ts:List Tre} {t:Tre} {x:aG} {n m a:Int}:(Tre.mk 35 x n m a (ts++[t])).pr=[aB rO]++([aB bK]++(dh cH (ts.map Tre.pr)++([aB bJ]++dP t.kind 1 t.pr))):=by
 rw[Tre.cG];have e1:(ts++[t]).map (λ t=>(t.kind,t.pr))=(ts.map λ t=>(t.kind,t.pr))++[(t.kind,t.pr)]:=by simp
 rw[e1];generalize hq:ts.map (λ t=>(t.kind,t.pr))=q;have e3:ts.map Tre.pr=q.map (·.2):=by rw[<- hq,List.map_map]; rfl
 rw[e3];simp[aV,oC]
theorem ab5 {ts:List Tre} {x:aG} {n m a:Int}:(Tre.mk 34 x n m a ts).pr=[eK x]++([aB bK]++(dh cH (ts.map Tre.pr)++[aB bJ])):=by
 rw[Tre.cG];have e3:ts.map Tre.pr=(ts.map λ t=>(t.kind,t.pr)).map (·.2):=by rw[List.map_map]; rfl
 rw[e3]; simp[aV]
theorem ae6 {k:Int} {ps:List Tre} {B C:Tre} {x:aG} {n m a:Int} (hk:k=3\/k=4):(Tre.mk k x n m a (ps++[B,C])).pr=[aB (if k=3 then gg else dQ)]++([eK x]++([aB bK]++(dh cH (ps.map Tre.pr)++([aB bJ]++([aB dk]++(B.pr++([aB gP]++(C.pr++[aB cC])))))))):=by
 rw[Tre.cG];have e1:(ps++[B,C]).map (λ t=>(t.kind,t.pr))=(ps.map λ t=>(t.kind,t.pr))++[(B.kind,B.pr),(C.kind,C.pr)]:=by simp
 rw[e1];generalize hq:ps.map (λ t=>(t.kind,t.pr))=q;have e3:ps.map Tre.pr=q.map (·.2):=by rw[<- hq,List.map_map]; rfl
 rw[e3];have el:(q++[(B.kind,B.pr),(C.kind,C.pr)]).length-2=q.length:=by simp
 have RW:(q++[(B.kind,B.pr),(C.kind,C.pr)]).length-1=q.length+1:=by simp
 rcases hk with rfl|rfl<;>simp[aV,el,RW,oC]
theorem D1.pr {ns:List Nd} (h:D1 L 0 i ns j):∃ t:Tre,ns=t.flat/\Dr L i j t.pr:=by
 obtain⟨t,h1,h2⟩:=h;have:=h2 0 (bX _);rw[Pr]at this;exact⟨t,h1,this⟩
include hL
theorem Oq {f:Nat} {ns:List Nd} (h:jI L E f i=.ok ns j):D1 L 0 i ns j:=by
 unfold jI at h;split at h
 . rename_i hw;obtain⟨_,_,h1,h⟩:=PR.ai h;obtain⟨_,_,h2,h⟩:=PR.ai h;obtain⟨_,_,h3,h⟩:=PR.ai h;obtain⟨_,_,h4,h⟩:=PR.ai h;obtain⟨ts,e1,_,d1⟩:=Gq hL (λ h=>B3 hL h) h1;obtain⟨t,e2,d2⟩:=(B3 hL h4).pr;obtain⟨rfl,rfl⟩:=PR.aW h;refine et (ts++[t]) (by rw[e1,e2,Tre.fy]; simp) (Nat.zero_le _) ?_;rw[X3];exact (Dr.wd hL (by decide) hw).app (d1.app ((Dr.need hL (by decide) h2).app ((Dr.need hL (by decide) h3).app d2)))
 . exact B3 hL h
theorem XV {f:Nat} {ns:List Nd} (h:j0 L E f i=.ok ns j):D1 L 0 i ns j:=by
 unfold j0 at h;obtain⟨_,_,h1,h⟩:=PR.ai h;obtain⟨_,_,h2,h⟩:=PR.ai h;obtain⟨_,_,h3,h⟩:=PR.ai h;obtain⟨t,e,d⟩:=(Oq hL h3).pr;obtain⟨rfl,rfl⟩:=PR.aW h;refine et [t] (by simp[e]) (Nat.zero_le _) ?_;rw[Tre.cG];simpa [aV] using (Dr.name h1).app ((Dr.need hL (w:=dk) (by decide) h2).app d)
end
end Go.Rip
namespace Go.Rip
section
variable {L:List Tk} {E:Nat} {i j k:Nat} {l l':List Tx} {w:aG}
def Cl (lev:Nat):Nat:=if lev=5 then 6 else lev
theorem D1.at {lev least:Nat} {ns:List Nd} (h:D1 L lev i ns j) (hl:least<=lev):∃ t:Tre,ns=t.flat/\Dr L i j (dP t.kind least t.pr):=by
 obtain⟨t,h1,h2⟩:=h;exact⟨t,h1,h2 least hl⟩
def DS (L:List Tk) (i:Nat) (ns:List Nd) (many j:Nat):Prop:=∃ ts:List Tre,ns=Tre.bu ts/\ts.length=many/\1<=many/\Dr L i j (dh cC (ts.map λ t=>dP t.kind 1 t.pr))/\(many=1->D1 L 1 i ns j)
theorem D1.s {ns:List Nd} (h:D1 L 1 i ns j):DS L i ns 1 j:=by
 obtain⟨t,h1,h2⟩:=h.at (bX 1);exact⟨[t],by simp[h1],rfl,bX _,by simpa [dh] using h2,λ _=>h⟩
theorem DS.snoc {i1 k many:Nat} {ns Ie:List Nd} (h:DS L i ns many j) (hw:Dr L j i1 [aB cC]) (hk:D1 L 1 i1 Ie k):DS L i (ns++Ie) (many+1) k:=by
 obtain⟨ts,h1,h2,h3,h4,_⟩:=h;obtain⟨t,k1,k2⟩:=hk.at (bX 1);refine⟨ts++[t],by rw[h1,k1,Tre.fy]; simp,by simp[h2],by omega,?_,λ h=>by omega⟩;have ca:ts≠[]:=λ e=>by rw[e]at h2; simp at h2; omega
 rw[List.map_append,List.map_singleton,BG cC (dP t.kind 1 t.pr) (by simpa using ca)];exact h4.app (hw.app k2)
theorem Tw {lev i:Nat} {kd:Int} (h:ox L lev i=some kd):bP kd=lev/\bm L i (ki kd)=true/\ki kd∈lW++jt/\(lev≠8->kd≠19/\kd≠25/\17<=kd/\kd<=24)/\(lev=8->kd=25):=by
 unfold ox at h
 repeat' split at h
 all_goals first
  | (cases h; done)
  | (cases h; subst_vars; exact⟨rfl,by assumption,by decide,λ _=>by decide,λ h=>absurd h (by decide)⟩)
  | (cases h; subst_vars; exact⟨rfl,by assumption,by decide,λ h=>absurd rfl h,λ h=>rfl⟩)
theorem ahq {kd:Int} {A B:Tre} {x:aG} {n m a:Int} (h:kd≠19/\kd≠25/\17<=kd/\kd<=24):(Tre.mk kd x n m a [A,B]).pr=dP A.kind (Cl (bP kd)) A.pr++([aB (ki kd)]++dP B.kind (bP kd+1) B.pr):=by
 have:kd=17\/kd=18\/kd=20\/kd=21\/kd=22\/kd=23\/kd=24:=by omega
 rw[Tre.cG];rcases this with rfl|rfl|rfl|rfl|rfl|rfl|rfl<;>simp[aV,Cl,bP,ki]
theorem aen (hL:∀ t∈L,kB t):∀ f:Nat,
 (∀ {i j ns},ig L E f i=.ok ns j->D1 L 0 i ns j) /\
 (∀ {i0 i at_ acc many j ns},nN L E f at_ acc many i=.ok ns j->DS L i0 acc many i->D1 L 0 i0 ns j) /\
 (∀ {i j ns},bF L E f i=.ok ns j->D1 L 1 i ns j) /\
 (∀ {i lev j ns},eC L E f lev i=.ok ns j->lev<=9->D1 L lev i ns j) /\
 (∀ {i0 i lev left j ns},lK L E f lev left i=.ok ns j->D1 L (Cl lev) i0 left i->D1 L lev i0 ns j) /\
 (∀ {i j ns},gI L E f i=.ok ns j->D1 L 9 i ns j) /\
 (∀ {i0 i acc j ns},kO L E f acc i=.ok ns j->DN L cH i0 acc i->DN L cH i0 ns j) /\
 (∀ {i j ns},js L E f i=.ok ns j->D1 L 0 i ns j):=by
 intro f
 induction f with
 | zero=>refine⟨?_,?_,?_,?_,?_,?_,?_,?_⟩<;>(intros; rename_i h; first|(rw[ig]at h; cases h; done)|(rw[bF]at h; cases h; done)|(rw[eC]at h; cases h; done)|(rw[gI]at h; cases h; done)|(rw[js]at h; cases h; done)|(simp_all [nN]; done)|(simp_all [lK]; done)|(simp_all [kO]; done)|(simp_all [eC]; done))
 | succ f ih =>
   obtain⟨iT,iS,iF,iO,iP,iA,iG,iR⟩:=ih;refine⟨?_,?_,?_,?_,?_,?_,?_,?_⟩
   . intro i j ns h;rw[ig]at h;obtain⟨_,_,h1,h⟩:=PR.ai h;exact iS h (iF h1).s
   . intro i0 i at_ acc many j ns h ha;rw[nN]at h;split at h
     . rename_i hw;obtain⟨_,_,h1,h⟩:=PR.ai h;exact iS h (ha.snoc (Dr.wd hL (by decide) hw.1) (iF h1))
     . obtain⟨rfl,rfl⟩:=PR.aW h;obtain⟨ts,e1,l1,m1,d1,o1⟩:=ha;split
       . rename_i h1;exact (o1 h1).low (Nat.zero_le _)
       . refine et ts e1 (Nat.zero_le _) ?_;have e:(Tre.mk 9 [] 0 0 at_ ts).pr=dh cC (ts.map λ t=>dP t.kind 1 t.pr):=by rw[Tre.cG]; simp only[aV,List.map_map]; rfl
         rw[e]; exact d1
   . intro i j ns h;rw[bF]at h;split at h
     . rename_i hw;obtain⟨_,_,h1,h⟩:=PR.ai h;obtain⟨_,_,h2,h⟩:=PR.ai h;obtain⟨_,_,h3,h⟩:=PR.ai h;obtain⟨_,_,h4,h⟩:=PR.ai h;obtain⟨_,_,h5,h⟩:=PR.ai h;obtain⟨A,e1,d1⟩:=(iF h1).at (bX 1); obtain⟨B,e2,d2⟩:=(iF h3).at (bX 1); obtain⟨C,e3,d3⟩:=(iF h5).at (bX 1);obtain⟨rfl,rfl⟩:=PR.aW h;refine et [A,B,C] (by simp[e1,e2,e3]) (by decide) ?_;rw[Tre.cG];simpa [aV] using (Dr.wd hL (by decide) hw).app (d1.app ((Dr.need hL (w:=oL) (by decide) h2).app (d2.app ((Dr.need hL (w:=fe) (by decide) h4).app d3))))
     split at h
     . rename_i hw;obtain⟨_,_,h1,h⟩:=PR.ai h;obtain⟨_,_,h2,h⟩:=PR.ai h;obtain⟨_,_,h3,h⟩:=PR.ai h;obtain⟨A,e1,d1⟩:=(iF h1).at (bX 1); obtain⟨B,e2,d2⟩:=(iF h3).at (bX 1);obtain⟨rfl,rfl⟩:=PR.aW h;refine et [A,B] (by simp[e1,e2]) (by decide) ?_;rw[Tre.cG];simpa [aV] using (Dr.wd hL (by decide) hw).app (d1.app ((Dr.need hL (w:=sY) (by decide) h2).app d2))
     split at h
     . rename_i hw;obtain⟨_,_,h1,h⟩:=PR.ai h;obtain⟨_,_,h2,h⟩:=PR.ai h;obtain⟨_,_,h3,h⟩:=PR.ai h;obtain⟨_,_,h4,h⟩:=PR.ai h;obtain⟨_,_,h5,h⟩:=PR.ai h;obtain⟨_,_,h6,h⟩:=PR.ai h;obtain⟨_,_,h7,h⟩:=PR.ai h;obtain⟨A,e1,d1⟩:=(iF h7).at (bX 1);obtain⟨rfl,rfl⟩:=PR.aW h;refine et [A] (by simp[e1]) (by decide) ?_;rw[Tre.cG];simpa [aV] using (Dr.wd hL (by decide) hw).app ((Dr.name h1).app ((Dr.need hL (w:=dk) (by decide) h2).app ((Dr.num hL h3).1.app ((Dr.need hL (w:=bQ) (by decide) h4).app ((Dr.num hL h5).1.app ((Dr.need hL (w:=kr) (by decide) h6).app d1))))))
     split at h
     . rename_i hw;obtain⟨_,_,h1,h⟩:=PR.ai h;obtain⟨_,_,h2,h⟩:=PR.ai h;obtain⟨_,_,h3,h⟩:=PR.ai h;obtain⟨_,_,h4,h⟩:=PR.ai h;obtain⟨_,_,h5,h⟩:=PR.ai h;obtain⟨A,e1,d1⟩:=(iF h3).at (bX 1); obtain⟨B,e2,d2⟩:=(iF h5).at (bX 1);obtain⟨rfl,rfl⟩:=PR.aW h;refine et [A,B] (by simp[e1,e2]) (by decide) ?_;rw[Tre.cG];simpa [aV] using (Dr.wd hL (by decide) hw).app ((Dr.name h1).app ((Dr.need hL (w:=kr) (by decide) h2).app (d1.app ((Dr.need hL (w:=fe) (by decide) h4).app d2))))
     split at h
     . rename_i hw;obtain⟨_,_,h1,h⟩:=PR.ai h;obtain⟨_,_,h2,h⟩:=PR.ai h;obtain⟨_,_,h3,h⟩:=PR.ai h;obtain⟨A,e1,d1⟩:=(iF h1).at (bX 1); obtain⟨B,e2,d2⟩:=(iF h3).at (bX 1);obtain⟨rfl,rfl⟩:=PR.aW h;refine et [A,B] (by simp[e1,e2]) (by decide) ?_;rw[Tre.cG];simpa [aV] using (Dr.wd hL (by decide) hw).app (d1.app ((Dr.need hL (w:=fe) (by decide) h2).app d2))
     split at h
     . rename_i hw;obtain⟨_,_,h1,h⟩:=PR.ai h;obtain⟨_,_,h2,h⟩:=PR.ai h;obtain⟨_,_,h3,h⟩:=PR.ai h;obtain⟨_,_,h4,h⟩:=PR.ai h;obtain⟨_,_,h5,h⟩:=PR.ai h;obtain⟨A,e1,d1⟩:=(iF h5).at (bX 1);obtain⟨rfl,rfl⟩:=PR.aW h;refine et [A] (by simp[e1]) (by decide) ?_;rw[Tre.cG];simpa [aV] using (Dr.wd hL (by decide) hw).app ((Dr.name h1).app ((Dr.need hL (w:=bQ) (by decide) h2).app ((Dr.num hL h3).1.app ((Dr.need hL (w:=kr) (by decide) h4).app d1))))
     split at h
     . obtain⟨_,_,h1,h⟩:=PR.ai h;obtain⟨_,_,h2,h⟩:=PR.ai h;obtain⟨_,_,h3,h⟩:=PR.ai h;obtain⟨A,e1,d1⟩:=(iF h3).at (bX 1);obtain⟨rfl,rfl⟩:=PR.aW h;refine et [A] (by simp[e1]) (by decide) ?_;rw[Tre.cG];simpa [aV] using (Dr.name h1).app ((Dr.need hL (w:=bQ) (by decide) h2).app d1)
     . exact (iO h (by omega)).low (by omega)
   . intro i lev j ns h Kw;rw[eC]at h;split at h
     . rename_i h9;subst h9;exact iA h
     split at h
     . rename_i h4;subst h4;split at h
       . rename_i hw;obtain⟨_,_,h1,h⟩:=PR.ai h;obtain⟨A,e1,d1⟩:=(iO h1 (by omega)).at (bX 4);obtain⟨rfl,rfl⟩:=PR.aW h;refine et [A] (by simp[e1]) (by decide) ?_;rw[Tre.cG];simpa [aV] using (Dr.wd hL (by decide) hw).app d1
       . exact (iO h (by omega)).low (by omega)
     . obtain⟨_,_,h1,h⟩:=PR.ai h;exact iP h ((iO h1 (by omega)).low (by unfold Cl; split<;>omega))
   . intro i0 i lev left j ns h hd;rw[lK]at h;split at h
     . obtain⟨rfl,rfl⟩:=PR.aW h;exact hd.low (by unfold Cl; split<;>omega)
     rename_i kind hk;obtain⟨o1,o2,o3,o4,o5⟩:=Tw hk;split at h
     . rename_i h8;subst h8;have:=o5 rfl;subst this;obtain⟨_,_,h1,h⟩:=PR.ai h;obtain⟨A,e1,d1⟩:=hd.at (least:=8) (bX 8);refine iP h (et [A] (by simp[e1]) (by decide) ?_);rw[Tre.cG];simpa [aV] using d1.app ((Dr.wd hL (w:=uI) (by decide) o2).app (Dr.num hL h1).1)
     . rename_i h8;obtain⟨_,_,h1,h⟩:=PR.ai h;have Kw:lev+1<=9:=by
        have:bP kind<=9:=Ch kind;have h9:lev≠9:=λ h9=>by
         rw[h9]at hk; simp[ox]at hk
        omega
       obtain⟨A,e1,d1⟩:=hd.at (bX _);obtain⟨B,e2,d2⟩:=(iO h1 Kw).at (bX _);have dr:=d1.app ((Dr.wd hL o3 o2).app d2);rw[<- o1,<- ahq (x:=[]) (n:=0) (m:=0) (a:=dv L E i) (o4 h8)]at dr;split at h
       . rename_i h5;obtain⟨rfl,rfl⟩:=PR.aW h;exact et [A,B] (by simp[e1,e2]) (by omega) dr
       . rename_i h5;refine iP h (et [A,B] (by simp[e1,e2]) (by rw[o1]; unfold Cl; rw[if_neg h5]; exact bX _) dr)
   . intro i j ns h;rw[gI]at h;split at h
     . rename_i hw;obtain⟨rfl,rfl⟩:=PR.aW h;refine et [] (by simp) (by decide) ?_;rw[Tre.cG]; simpa [aV] using Dr.wd hL (by decide) hw
     split at h
     . rename_i hw;obtain⟨rfl,rfl⟩:=PR.aW h;refine et [] (by simp) (by decide) ?_;rw[Tre.cG]; simpa [aV] using Dr.wd hL (by decide) hw
     split at h
     . rename_i hw;obtain⟨rfl,rfl⟩:=PR.aW h;refine et [] (by simp) (by decide) ?_;rw[Tre.cG]; simpa [aV] using Dr.wd hL (by decide) hw
     split at h
     . rename_i hw;obtain⟨rfl,rfl⟩:=PR.aW h;refine et [] (by simp) (by decide) ?_;rw[Tre.cG]; simpa [aV] using Dr.wd hL (by decide) hw
     split at h
     . rename_i hw;obtain⟨_,_,h1,h⟩:=PR.ai h;obtain⟨rfl,rfl⟩:=PR.aW h;refine et [] (by simp) (by decide) ?_;rw[Tre.cG]; simpa [aV] using (Dr.wd hL (by decide) hw).app (Dr.name h1)
     split at h
     . rename_i hw;obtain⟨_,_,h1,h⟩:=PR.ai h;obtain⟨rfl,rfl⟩:=PR.aW h;refine et [] (by simp) (by decide) ?_;rw[Tre.cG]; simpa [aV] using (Dr.wd hL (by decide) hw).app (Dr.name h1)
     split at h
     . rename_i hw;obtain⟨_,_,h1,h⟩:=PR.ai h;obtain⟨_,_,h2,h⟩:=PR.ai h;obtain⟨A,e1,d1⟩:=(iT h1).pr;obtain⟨rfl,rfl⟩:=PR.aW h;refine⟨A,e1,λ least _=>?_⟩;obtain⟨t1,ht1,_⟩:=FU hL (by decide) hw;have wy:=h2;unfold bM at wy;split at wy
       . rename_i Oc;obtain⟨t2,ht2,_⟩:=FU hL (by decide) Oc;unfold dP;split
         . have hj:=cT h2;have:=(Dr.skip ht1).app (d1.app (Dr.skip ht2));rw[hj];simpa using this
         . simpa using (Dr.wd hL (w:=bK) (by decide) hw).app (d1.app (Dr.need hL (w:=bJ) (by decide) h2))
       . cases wy
     split at h
     . obtain⟨_,_,h1,h⟩:=PR.ai h;obtain⟨rfl,rfl⟩:=PR.aW h;refine et [] (by simp) (by decide) ?_;rw[Tre.cG]; simpa [aV] using (Dr.num hL h1).1
     . obtain⟨_,_,h1,h⟩:=PR.ai h;split at h
       . rename_i hw;obtain⟨_,_,h2,h⟩:=PR.ai h;obtain⟨_,_,h3,h⟩:=PR.ai h;obtain⟨_,_,h4,h⟩:=PR.ai h;obtain⟨ts,e1,_,d1⟩:=iG h3 (iR h2).n;obtain⟨rfl,rfl⟩:=PR.aW h;refine et ts e1 (by decide) ?_;rw[ab5];exact (Dr.name h1).app ((Dr.wd hL (by decide) hw).app (d1.app (Dr.need hL (by decide) h4)))
       . obtain⟨rfl,rfl⟩:=PR.aW h;refine et [] (by simp) (by decide) ?_;rw[Tre.cG]; simpa [aV] using Dr.name h1
   . intro i0 i acc j ns h ha;rw[kO]at h;split at h
     . rename_i hw;obtain⟨_,_,h1,h⟩:=PR.ai h;exact iG h (ha.snoc (Dr.wd hL (by decide) hw) (iR h1))
     . obtain⟨rfl,rfl⟩:=PR.aW h;exact ha
   . intro i j ns h;rw[js]at h;split at h
     . rename_i hw;obtain⟨_,_,h1,h⟩:=PR.ai h;obtain⟨_,_,h2,h⟩:=PR.ai h;obtain⟨_,_,h3,h⟩:=PR.ai h;obtain⟨_,_,h4,h⟩:=PR.ai h;obtain⟨ts,e1,_,d1⟩:=Gq hL (λ h=>Ny hL h) h2;obtain⟨B,e2,d2⟩:=(iF h4).at (bX 1);obtain⟨rfl,rfl⟩:=PR.aW h;refine et (ts++[B]) (by rw[e1,e2,Tre.fy]; simp) (Nat.zero_le _) ?_;rw[ahp];exact (Dr.wd hL (by decide) hw).app ((Dr.need hL (by decide) h1).app (d1.app ((Dr.need hL (by decide) h3).app d2)))
     split at h
     . rename_i hw;obtain⟨_,_,h1,h⟩:=PR.ai h;obtain⟨_,_,h2,h⟩:=PR.ai h;obtain⟨_,_,h3,h⟩:=PR.ai h;obtain⟨_,_,h4,h⟩:=PR.ai h;obtain⟨_,_,h5,h⟩:=PR.ai h;obtain⟨_,_,h6,h⟩:=PR.ai h;obtain⟨_,_,h7,h⟩:=PR.ai h;obtain⟨_,_,h8,h⟩:=PR.ai h;obtain⟨A,e1,d1⟩:=(iF h2).at (bX 1);obtain⟨B,e2,d2⟩:=(Ny hL h5).pr;obtain⟨C,e3,d3⟩:=(iF h7).at (bX 1);obtain⟨rfl,rfl⟩:=PR.aW h;refine et [A,B,C] (by simp[e1,e2,e3]) (Nat.zero_le _) ?_;rw[Tre.cG];simpa [aV] using (Dr.wd hL (by decide) hw).app ((Dr.need hL (w:=va) (by decide) h1).app (d1.app ((Dr.need hL (w:=cC) (by decide) h3).app ((Dr.need hL (w:=vb) (by decide) h4).app (d2.app ((Dr.need hL (w:=uc) (by decide) h6).app (d3.app (Dr.need hL (w:=jJ) (by decide) h8))))))))
     . exact iT h
theorem abu (hL:∀ t∈L,kB t) {f:Nat} {ns:List Nd} (h:mN L E f i=.ok ns j):D1 L 0 i ns j:=by
 unfold mN at h;split at h
 . rename_i hw;obtain⟨_,_,h1,h⟩:=PR.ai h;obtain⟨_,_,h2,h⟩:=PR.ai h;obtain⟨_,_,h3,h⟩:=PR.ai h;obtain⟨_,_,h4,h⟩:=PR.ai h;obtain⟨A,e1,d1⟩:=(Oq hL h3).pr;obtain⟨rfl,rfl⟩:=PR.aW h;refine et [A] (by simp[e1]) (Nat.zero_le _) ?_;rw[Tre.cG];simpa [aV] using (Dr.wd hL (by decide) hw).app ((Dr.name h1).app ((Dr.need hL (w:=dk) (by decide) h2).app (d1.app (Dr.need hL (w:=cC) (by decide) h4))))
 . obtain⟨kd,i1,h0,h⟩:=PR.ai h;obtain⟨_,_,h1,h⟩:=PR.ai h;obtain⟨_,_,h2,h⟩:=PR.ai h;obtain⟨a,i2,h3,h⟩:=PR.ai h;obtain⟨_,_,h4,h⟩:=PR.ai h;obtain⟨_,_,h5,h⟩:=PR.ai h;obtain⟨_,_,h6,h⟩:=PR.ai h;obtain⟨_,_,h7,h⟩:=PR.ai h;obtain⟨_,_,h8,h⟩:=PR.ai h;obtain⟨_,_,h9,h⟩:=PR.ai h;obtain⟨B,e2,d2⟩:=(B3 hL h6).pr;obtain⟨C,e3,d3⟩:=((aen hL f).1 h8).pr;obtain⟨rfl,rfl⟩:=PR.aW h;have d0:(kd=3\/kd=4)/\Dr L i i1 [aB (if kd=3 then gg else dQ)]:=by
    split at h0
    . rename_i hw;obtain⟨rfl,rfl⟩:=PR.aW h0;exact⟨.inl rfl,Dr.wd hL (w:=gg) (by decide) hw⟩
    . obtain⟨_,_,h0',h0⟩:=PR.ai h0;obtain⟨rfl,rfl⟩:=PR.aW h0;exact⟨.inr rfl,Dr.need hL (w:=dQ) (by decide) h0'⟩
   obtain⟨ts,e1,d1⟩:∃ ts:List Tre,a=Tre.bu ts/\Dr L _ i2 (dh cH (ts.map Tre.pr)):=by
    split at h3
    . rename_i hw;obtain⟨rfl,rfl⟩:=PR.aW h3;have:=(Dr.need hL (by decide) h2);refine⟨[],by simp,bX _,this.2.1,?_⟩;unfold xK;rw[Nat.sub_self];exact .nil
    . obtain⟨ts,e1,_,d1⟩:=Gq hL (λ h=>XV hL h) h3;exact⟨ts,e1,d1⟩
   refine et (ts++[B,C]) (by rw[e1,e2,e3,Tre.fy]; simp) (Nat.zero_le _) ?_;rw[ae6 d0.1];exact d0.2.app ((Dr.name h1).app ((Dr.need hL (by decide) h2).app (d1.app ((Dr.need hL (by decide) h4).app ((Dr.need hL (by decide) h5).app (d2.app ((Dr.need hL (by decide) h7).app (d3.app (Dr.need hL (by decide) h9)))))))))
theorem KY (hL:∀ t∈L,kB t):∀ (f:Nat) (acc:List Nd) (ts:List Tre) (i:Nat) {j:Nat} {ns:List Nd},ku L E f acc i=.ok ns j->acc=Tre.bu ts->Dr L 0 i (fN ts)->∃ us:List Tre,ns=Tre.bu us/\Dr L 0 j (fN us)
 | 0,_,_,_,_,_,h,_,_=>by cases h
 | f+1,acc,ts,i,j,ns,h,ha,hd=>by
   unfold ku at h;split at h
   . obtain⟨_,_,h1,h⟩:=PR.ai h;obtain⟨t,e,d⟩:=(abu hL h1).pr;refine KY hL f _ (ts++[t]) _ h (by rw[ha,e,Tre.fy]; simp) ?_;have:fN (ts++[t])=fN ts++t.pr:=by simp[fN]
     rw[this];exact hd.app d
   . obtain⟨rfl,rfl⟩:=PR.aW h;exact⟨ts,ha,hd⟩
end
end Go.Rip
namespace Go.Rip
theorem Wh (a:List Tx):∀ b:List Tx,tl a+tl b<=tl (a++b):=by
 induction a with
 | nil=>intro b; rw[BO]; simp
 | cons x a ih =>
   intro b;cases a with
   | nil =>
     have:=(vY x b).1;rw[yz]; exact this
   | cons y a =>
     have:=ih b;rw[dK,dK,jF,jF];rw[dK]at this;omega
theorem Ol:∀ us:List Tre,(fM us).length<=tl (fN us)+us.length
 | []=>by simp[fM,fN,BO]
 | t::us=>by
   have h1:=Ol us;have h2:=Wh t.pr (fN us);have e1:fM (t::us)=cR t.pr++10::fM us:=by simp[fM]
   have e2:fN (t::us)=t.pr++fN us:=rfl;rw[e1,e2,cO,eX,eX];have:(cR t.pr).length=tl t.pr:=rfl;omega
theorem HO:∀ us:List Tre,us.length<=(fM us).count 10
 | []=>by simp
 | t::us=>by
   have h1:=HO us;have e1:fM (t::us)=cR t.pr++10::fM us:=by simp[fM]
   rw[e1,List.count_append,List.count_cons_self,eX];omega
theorem Gn {t:Tre}:∀ {us:List Tre},t∈us->t.pr.length<=(fN us).length/\tl t.pr<=tl (fN us)
 | u::us,h=>by
   have e2:fN (u::us)=u.pr++fN us:=rfl;have h2:=Wh u.pr (fN us);rw[e2,cO];rcases cK.1 h with rfl|h
   . omega
   . have:=Gn h;omega
theorem BM:∀ (us:List Tre) (acc:aG),(∀ t∈us,t.pr.length<=900/\tl t.pr<=2500)->gN us acc=if 2500<(acc++fM us).length then ([],5) else (acc++fM us,0)
 | [],acc,h=>by rw[gN]; simp[fM]
 | t::us,acc,h=>by
   obtain⟨h1,h2⟩:=h t (by simp);have e:fA t.pr=(cR t.pr,0):=by
    unfold fA;rw[if_neg (by omega),if_neg (by have:(cR t.pr).length=tl t.pr:=rfl; omega)]
   rw[sS,e,if_neg (by simp),BM us _ λ u hu=>h u (by simp[hu])];have e1:acc++fM (t::us)=acc++cR t.pr++[10]++fM us:=by simp[fM]
   rw[e1]
theorem Jp:∀ (N:Nat) (ts qH:List Tre) (r r':List Nd),(Tre.bu ts).length<=N->bz (Tre.bu ts++r)=bz (Tre.bu qH++r')->(Tre.bu ts).length=(Tre.bu qH).length->ts.map (λ t=>(t.kind,t.pr))=qH.map (λ t=>(t.kind,t.pr))/\bz r=bz r'
 | N,[],[],_,_,_,h,_=>⟨rfl,by simpa using h⟩
 | N,[],t::ts,_,_,_,_,h=>by have:=t.dJ; simp only[Tre.cM,Tre.nh,cO,k0]at h; omega
 | N,t::ts,[],_,_,_,_,h=>by have:=t.dJ; simp only[Tre.cM,Tre.nh,cO,k0]at h; omega
 | 0,t::ts,_,_,_,hN,_,_=>by have:=t.dJ; simp only[Tre.cM,cO]at hN; omega
 | N+1,.mk k t n m a ks::ts,.mk k' t' n' m' a' ks'::qH,r,r',hN,h,hl=>by
   simp only[bz,Tre.cM,Tre.dZ,dK,dc,dH,List.cons.injEq,Nd.mk.injEq,eX,cO]at h hl hN;obtain⟨⟨rfl,rfl,rfl,rfl,_,hs⟩,h⟩:=h;have hs:(Tre.bu ks).length=(Tre.bu ks').length:=by omega
   obtain⟨e1,h2⟩:=Jp N ks ks' (Tre.bu ts++r) (Tre.bu qH++r') (by omega) h hs;obtain⟨e2,h3⟩:=Jp N ts qH r r' (by omega) h2 (by omega);refine⟨?_,h3⟩;simp only[dH,e2,Tre.cG,e1];rfl
theorem Dg:∀ (ts qH:List Tre) (acc:aG),ts.map (λ t=>(t.kind,t.pr))=qH.map (λ t=>(t.kind,t.pr))->gN ts acc=gN qH acc
 | [],[],_,_=>rfl
 | [],_::_,_,h=>by simp at h
 | _::_,[],_,h=>by simp at h
 | t::ts,t'::qH,acc,h=>by
   simp only[dH,List.cons.injEq,hY]at h;obtain⟨⟨_,h1⟩,h2⟩:=h;rw[sS,sS,h1,Dg ts qH _ h2]
theorem wW {t:Tre} (hc:fR t.flat=0) (h1:t.kind=1):lC t.flat 0=gN t.kids []:=by
 have Si:lG t.flat 0=0:=by rw[Au]; exact hc
 have:=BN (n:=0) Si (gT.whole t);rw[show lC t.flat 0=nX t from this];unfold nX; rw[if_neg (by simp[h1])]
theorem acp {l l':List Nd} (hc:fR l=0) (oP:fR l'=0) (h:eU l=eU l'):lC l 0=lC l' 0:=by
 obtain⟨t,rfl,k1,k2,k9,_⟩:=p4 hc;obtain⟨t',rfl,Z1,k2',k9',_⟩:=p4 oP;rw[wW hc k1,wW oP Z1];obtain⟨_,a,e⟩:=qd k1 k2 k9;obtain⟨_,a',e'⟩:=qd Z1 k2' k9';rw[B1,B1,e,e',Tre.dZ,Tre.dZ]at h;have hl:=Ek h;simp only[eX]at hl;have h2:bz (Tre.bu t.kids++[])=bz (Tre.bu t'.kids++[]):=by
  simp only[bz,dH,List.cons.injEq,gx]at h ⊢;exact h.2
 exact Dg _ _ _ (Jp _ _ _ [] [] (bX _) h2 (by omega)).1
theorem EP {L:List Tk} {E:Nat}:∀ (f:Nat) (acc:List Nd) (i:Nat) {j:Nat} {ns:List Nd},ku L E f acc i=.ok ns j->L.length<=j
 | 0,_,_,_,_,h=>by cases h
 | f+1,acc,i,j,ns,h=>by
   unfold ku at h;split at h
   . obtain⟨_,_,_,h⟩:=PR.ai h;exact EP f _ _ h
   . obtain⟨rfl,rfl⟩:=PR.aW h;omega
theorem zn {s:aG} {l:List Nd} {p:Int} (h:kZ s=(l,p,0)):∃ (L:List Tk) (t:Tre),ix s=.ok L/\l=t.flat/\t.kind=1/\fR l=0/\pk (fN t.kids) (L.map tx)/\L.length<=900/\(∀ x∈L,kB x)/\s.length<=2500:=by
 unfold kZ at h;cases hl:ix s with
 | bad q e =>
   rw[hl]at h;simp only[hY]at h;exact absurd h.2.2 (DF hl)
 | ok L =>
   rw[hl]at h;simp only at h;obtain⟨yV,Ho⟩:=vn hl;have Xs:s.length<=2500:=by
    unfold ix rD at hl
    by_cases uL:2500<s.length
    . rw[if_pos uL]at hl; simp at hl
    . omega
   have hgd:=HI (L:=L) (E:=s.length) (L.length+1) [] 0 (by omega) (by omega);cases hp:ku L s.length (L.length+1) [] 0 with
   | bad j=>rw[hp]at h; simp at h
   | out=>rw[hp]at hgd; exact hgd.elim
   | ok ns j =>
     rw[hp]at h;simp only[hY]at h;obtain⟨h1,_,h3⟩:=h;obtain⟨m,g1,g2,g3⟩:=DD yV Ho _ [] 0 0 hp s8.nil (by omega) (by omega);obtain⟨us,e1,d1⟩:=KY yV _ [] [] 0 hp (by simp) ⟨bX _,by omega,by unfold xK; exact .nil⟩;unfold lQ at h1 h3;split at h3
     . simp at h3
     . rename_i hw;rw[if_neg hw]at h1;have Hr:=IP g1 (by omega);rw[if_neg hw]at Hr;refine⟨L,.mk 1 [] 0 0 0 us,rfl,?_,rfl,by rw[<- h1]; exact Hr,?_,Ho,yV,Xs⟩
       . rw[<- h1,e1,Tre.dZ]; rfl
       . obtain⟨_,hj,hd⟩:=d1;have pN:j=L.length:=Nat.le_antisymm hj (EP _ _ _ hp);subst pN;have:xK L 0 L.length=L.map tx:=by unfold xK; simp
         rw[this]at hd;exact hd
theorem IZ {s:aG} {l:List Nd} {p:Int} (h:kZ s=(l,p,0)) :
 fR l=0/\((lC l 0=([],5)/\2500<s.length+l.length)\/∃ u v,lC l 0=(u,0)/\u.length<=s.length+u.count 10/\u.length<=2500/\kZ u=(v,0,0)/\fR v=0/\lC v 0=(u,0)):=by
 obtain⟨L,t,hl,rfl,hk,hc,hd,Ho,yV,Xs⟩:=zn h;refine⟨hc,?_⟩;have ht:=wW hc hk;have tb:=Ow hl;have hlen:=hd.len;have htd:=(hd.tl λ x hx=>by
  obtain⟨y,hy,rfl⟩:=List.mem_map.1 hx;exact yV y hy).1
 rw[List.length_map]at hlen;rw[BM _ _ λ u hu=>by have:=Gn hu; omega,eH]at ht;have h1:=Ol t.kids;have h2:=HO t.kids;have h3:=nI t;have h4:=Tre.oN t.kids
 by_cases hb:2500<(fM t.kids).length
 . rw[if_pos hb]at ht;exact .inl ⟨ht,by omega⟩
 . rw[if_neg hb]at ht;obtain⟨_,ag0⟩:=Pk hc ht;refine .inr ⟨fM t.kids,?_⟩;obtain⟨t',e',k1,k2,k9,_⟩:=p4 hc;obtain rfl:=Tre.yU e';obtain⟨AY,_⟩:=qd k1 k2 k9;rcases ag0 with ⟨u,q1,q2,q3,q4⟩|⟨q,q1,q2⟩
   . exact⟨u,ht,by omega,by omega,q1,q3,by rw[acp q3 hc q2]; exact ht⟩
   . obtain⟨L2,_,q3⟩:=(Ox (λ c oP=>(AY c oP).1) (by omega)).1 (by omega);rw[q3]at q2; cases q2
end Go.Rip
namespace Go.Rip
def vQ (b:Bool):List Bool->Option (List Bool)
 | []=>none
 | c::st=>if c=b then some st else none
def mw:List Bool->List Tx->Bool
 | st,[]=>st.isEmpty
 | st,x::l=>if x.2=bK then mw (true::st) l else if x.2=gQ then mw (false::st) l
   else if x.2=bJ then (vQ true st).elim false λ kL=>mw kL l
   else if x.2=jJ then (vQ false st).elim false λ kL=>mw kL l
   else mw st l
def Bl (l:List Tx):Prop:=∀ st r,mw st (l++r)=mw st r
def G0 (x:Tx):Prop:=x.2≠bK/\x.2≠gQ/\x.2≠bJ/\x.2≠jJ
theorem Bl.nil:Bl []:=λ st r=>rfl
theorem Bl.app {a b:List Tx} (h:Bl a) (k:Bl b):Bl (a++b):=λ st r=>by rw[dc,h,k]
theorem Bl.cons {x:Tx} {l:List Tx} (hx:G0 x) (h:Bl l):Bl (x::l):=λ st r=>by
 rw[dK,mw,if_neg hx.1,if_neg hx.2.1,if_neg hx.2.2.1,if_neg hx.2.2.2];exact h st r
theorem Bl.TR {l r:List Tx} (h:Bl l) (k:Bl r):Bl (aB bK::(l++aB bJ::r)):=λ st r'=>by
 have e:(aB bK::(l++aB bJ::r))++r'=aB bK::(l++(aB bJ::(r++r'))):=by simp
 rw[e,mw,if_pos (show (aB bK).2=bK from rfl),h,mw,if_neg (by decide),if_neg (by decide),if_pos (show (aB bJ).2=bJ from rfl)];exact k st r'
theorem Bl.cur {l r:List Tx} (h:Bl l) (k:Bl r):Bl (aB gQ::(l++aB jJ::r)):=λ st r'=>by
 have e:(aB gQ::(l++aB jJ::r))++r'=aB gQ::(l++(aB jJ::(r++r'))):=by simp
 rw[e,mw,if_neg (by decide),if_pos (show (aB gQ).2=gQ from rfl),h,mw,if_neg (by decide),if_neg (by decide),if_neg (by decide),if_pos (show (aB jJ).2=jJ from rfl)];exact k st r'
theorem Bl.br {k:Int} {least:Nat} {l:List Tx} (h:Bl l):Bl (dP k least l):=by
 unfold dP;split
 . exact h
 . exact Bl.TR h .nil
theorem Bl.sep {w:aG} (hw:G0 (aB w)):∀ {ls:List (List Tx)},(∀ l∈ls,Bl l)->Bl (dh w ls)
 | [],_=>.nil
 | [l],h=>h l (by simp)
 | l::m::ls,h=>by
   rw[dh];exact (h l (by simp)).app (.cons hw (Bl.sep hw λ x hx=>h x (by simp only[cK]at hx ⊢; exact .inr hx)))
theorem OD {x:Tx} (h:x.2.all dj=true):G0 x:=by
 refine⟨?_,?_,?_,?_⟩<;>(intro e; rw[e]at h; exact absurd h (by decide))
theorem Tm (n:Int):G0 (jh n):=OD (by
 rw[fm];intro c hc;have:=fm.1 (DE 20 n.toNat) c hc;simp[dj,this])
theorem ae2 {x:aG} (h:x=[]\/kH x=true):G0 (eK x):=by
 rcases h with rfl|h
 . exact⟨by decide,by decide,by decide,by decide⟩
 . refine OD ?_;unfold kH at h;rw[eg]at h;rcases ql h with k|k|k|k
   . exact k.2.2.2.2
   . omega
   . omega
   . omega
instance (x:Tx):Decidable (G0 x):=inferInstanceAs (Decidable (_/\_))
theorem fI {p:Prop} [Decidable p] {a b:List Tx} (ha:p->Bl a) (hb:¬ p->Bl b):Bl (if p then a else b):=by
 by_cases h:p
 . rw[if_pos h]; exact ha h
 . rw[if_neg h]; exact hb h
theorem QL {k:Int} {x:aG} {n m:Int} {ks:List (Int×List Tx)} (hx:G0 (eK x)) (hk:∀ y∈ks,Bl y.2):Bl (aV k x n m ks):=by
 have g:∀ i:Nat,Bl (ks.getD i (0,[])).2:=λ i=>by
  rw[oC];cases h:ks[i]? with
  | none=>exact .nil
  | some y=>exact hk y (gw h)
 have ck:∀ l∈ks.map (·.2),Bl l:=λ l hl=>by
  obtain⟨y,hy,rfl⟩:=List.mem_map.1 hl;exact hk y hy
 have P8:∀ j,∀ l∈(ks.map (·.2)).take j,Bl l:=λ j l hl=>ck l (List.mem_of_mem_take hl);have hc:G0 (aB cH):=by decide
 have hn:=Tm n;have hm:=Tm m;unfold aV;refine fI (λ _=>?_) λ _=>?_
 . try simp only[dK,dc,eH]
   exact .cons (by decide) (.cons hx (.cons (by decide) ((g _).app (.cons (by decide) .nil))))
 refine fI (λ _=>?_) λ _=>?_
 . try simp only[dK,dc,eH]
   refine .cons (by split<;>decide) (.cons hx ?_)
   exact .TR (Bl.sep hc (P8 _)) (.cons (by decide) ((g _).app (.cons (by decide) ((g _).app (.cons (by decide) .nil)))))
 refine fI (λ _=>?_) λ _=>?_
 . try simp only[dK,dc,eH]
   exact .cons hx (.cons (by decide) (g _))
 refine fI (λ _=>?_) λ _=>?_
 . exact fI (λ _=>.cons (by decide) .nil) λ _=>fI (λ _=>.cons (by decide) .nil) λ _=>.cons (by decide) (.cons hn .nil)
 refine fI (λ _=>?_) λ _=>?_
 . try simp only[dK,dc,eH]
   exact .cons (by decide) (.cons hn .nil)
 refine fI (λ _=>?_) λ _=>?_
 . try simp only[dK,dc,eH]
   exact .TR (Bl.sep hc (P8 _)) (.cons (by decide) (g _))
 refine fI (λ _=>?_) λ _=>?_
 . refine Bl.sep (by decide) λ l hl=>?_;obtain⟨y,hy,rfl⟩:=List.mem_map.1 hl;exact (hk y hy).br
 refine fI (λ _=>?_) λ _=>?_
 . try simp only[dK,dc,eH]
   exact .cons (by decide) ((g _).br.app (.cons (by decide) ((g _).br.app (.cons (by decide) (g _).br))))
 refine fI (λ _=>?_) λ _=>?_
 . try simp only[dK,dc,eH]
   exact .cons (by decide) ((g _).br.app (.cons (by decide) (g _).br))
 refine fI (λ _=>?_) λ _=>?_
 . try simp only[dK,dc,eH]
   exact .cons (by decide) (.cons hx (.cons (by decide) (.cons hn (.cons (by decide) (.cons hm (.cons (by decide) (g _).br))))))
 refine fI (λ _=>?_) λ _=>?_
 . try simp only[dK,dc,eH]
   exact .cons (by decide) (.cons hx (.cons (by decide) ((g _).br.app (.cons (by decide) (g _).br))))
 refine fI (λ _=>?_) λ _=>?_
 . try simp only[dK,dc,eH]
   exact .cons (by decide) (.cons hx (.cons (by decide) (.cons hn (.cons (by decide) (g _).br))))
 refine fI (λ _=>?_) λ _=>?_
 . try simp only[dK,dc,eH]
   exact .cons (by decide) ((g _).br.app (.cons (by decide) (g _).br))
 refine fI (λ _=>?_) λ _=>?_
 . try simp only[dK,dc,eH]
   exact .cons hx (.cons (by decide) (g _).br)
 refine fI (λ _=>?_) λ _=>?_
 . try simp only[dK,dc,eH]
   exact .cons (by decide) (g _).br
 refine fI (λ _=>?_) λ _=>?_
 . try simp only[dK,dc,eH]
   exact (g _).br.app (.cons (by decide) (.cons hn .nil))
 refine fI (λ _=>?_) λ _=>?_
 . try simp only[dK,dc,eH]
   refine (g _).br.app (.cons ?_ (g _).br);unfold ki
   repeat' split
   all_goals decide
 refine fI (λ _=>?_) λ _=>?_
 . try simp only[dK,dc,eH]
   exact .cons hn .nil
 refine fI (λ _=>?_) λ _=>?_
 . try simp only[dK,dc,eH]
   exact .cons (by decide) .nil
 refine fI (λ _=>?_) λ _=>?_
 . try simp only[dK,dc,eH]
   exact .cons (by decide) .nil
 refine fI (λ _=>?_) λ _=>?_
 . try simp only[dK,dc,eH]
   exact .cons (by decide) .nil
 refine fI (λ _=>?_) λ _=>?_
 . try simp only[dK,dc,eH]
   exact .cons (by decide) .nil
 refine fI (λ _=>?_) λ _=>?_
 . try simp only[dK,dc,eH]
   exact .cons (by decide) (.cons hx .nil)
 refine fI (λ _=>?_) λ _=>?_
 . try simp only[dK,dc,eH]
   exact .cons (by decide) (.cons hx .nil)
 refine fI (λ _=>?_) λ _=>?_
 . try simp only[dK,dc,eH]
   exact .cons hx .nil
 refine fI (λ _=>?_) λ _=>?_
 . try simp only[dK,dc,eH]
   exact .cons hx (.TR (Bl.sep hc ck) .nil)
 refine fI (λ _=>?_) λ _=>?_
 . try simp only[dK,dc,eH]
   exact .cons (by decide) (.TR (Bl.sep hc (P8 _)) (g _).br)
 refine fI (λ _=>?_) λ _=>?_
 . have:=Bl.cur (l:=aB va::(dP (ks.getD 0 (0,[])).1 1 (ks.getD 0 (0,[])).2++aB cC::aB vb::((ks.getD 1 (0,[])).2++aB uc::dP (ks.getD 2 (0,[])).1 1 (ks.getD 2 (0,[])).2))) (r:=[]) (.cons (by decide) ((g _).br.app (.cons (by decide) (.cons (by decide) ((g _).app (.cons (by decide) (g _).br)))))) .nil;simpa using this
 exact .nil
theorem TG:∀ (N:Nat) (t:Tre),t.flat.length<=N->t.ok=true->Bl t.pr
 | 0,t,h,_=>by have:=t.dJ; omega
 | N+1,.mk k x n m a ks,h,ho=>by
   obtain⟨fo,eJ,g1,g2,g3⟩:=Tre.ru ho;obtain⟨f1,f2,_⟩:=iw g1;rw[Tre.cG];refine QL (ae2 ?_) λ y hy=>?_
   . cases ht:fo.text with
     | false=>exact .inl (f1 ht)
     | true=>exact .inr (f2 ht).2
   . obtain⟨t,ht,rfl⟩:=List.mem_map.1 hy;have aN:=Tre.um (ks:=ks) ht;rw[Tre.dZ,eX]at h;exact TG N t (by omega) (g3 t ht)
theorem abz {us:List Tre} (h:∀ t∈us,t.ok=true):mw [] (fN us)=true:=by
 have:∀ us:List Tre,(∀ t∈us,t.ok=true)->Bl (fN us):=by
  intro us
  induction us with
  | nil=>intro _; exact .nil
  | cons t us ih =>
    intro h;exact (TG _ t (bX _) (h t (by simp))).app (ih λ u hu=>h u (by simp[hu]))
 have:=this us h [] [];rw[gx]at this;rw[this]; rfl
end Go.Rip
namespace Go.Rip
abbrev Pc:=aG×Tx
def lO (l:List Pc):aG:=l.flatMap λ p=>p.1++p.2.2
def vp (s:aG):Prop:=∀ c∈s,c=32\/c=10
def uA:Option Tx->List Pc->Prop
 | _,[]=>True
 | a,p::l=>vp p.1/\jK p.2/\(∀ x,a=some x->p.1=[]->fG x p.2=false)/\uA (some p.2) l
theorem nM (p:Pc) (l:List Pc):lO (p::l)=p.1++(p.2.2++lO l):=by simp[lO]
theorem ab2 (a b:List Pc):lO (a++b)=lO a++lO b:=by simp[lO]
def ga:Nat->List Pc->List Tk
 | _,[]=>[]
 | p,x::l=>⟨x.2.1,x.2.2,p+x.1.length⟩::ga (p+x.1.length+x.2.2.length) l
theorem D2:∀ (p:Nat) (l:List Pc),(ga p l).map tx=l.map (·.2)
 | _,[]=>rfl
 | p,x::l=>by rw[ga,dH,dH,D2]; rfl
theorem zg {s:aG}:∀ (b:aG) (p f:Nat) (acc:List Tk) (t:aG),vp b->s.drop p=b++t->eR (f+b.length) s p acc=eR f s (p+b.length) acc
 | [],p,f,acc,t,_,_=>rfl
 | c::b,p,f,acc,t,hb,hs=>by
   rw[show f+(c::b).length=(f+b.length)+1 by simp; omega,Be hs (hb c (by simp))];have rZ:s.drop (p+1)=b++t:=by rw[<- List.drop_drop,hs]; rfl
   rw[zg b (p+1) f acc t (λ x hx=>hb x (by simp[hx])) rZ];congr 1;simp; omega
theorem Tc {s:aG}:∀ (l:List Pc) (a:Option Tx) (acc:List Tk) (p f:Nat) (e:aG),uA a l->vp e->s.drop p=lO l++e->s.length-p<=f->acc.length+l.length<=900->eR f s p acc=.ok (acc++ga p l)
 | [],a,acc,p,f,e,hl,he,hs,hf,h9=>by
   have hs:s.drop p=e++[]:=by rw[hs]; simp[lO]
   have hlen:e.length<=f:=by
    have:=congrArg List.length hs;simp at this; omega
   obtain⟨f',rfl⟩:∃ g,f=g+e.length:=⟨f-e.length,by omega⟩;rw[zg e p f' acc [] he hs];have hd:s.drop (p+e.length)=[]:=by rw[<- List.drop_drop,hs]; simp
   cases f' with
   | zero=>simp[eR,ga]
   | succ f'=>rw[eR,hd]; simp[ga]
 | x::l,a,acc,p,f,e,hl,he,hs,hf,h9=>by
   obtain⟨h1,h2,_,h4⟩:=hl;rw[nM,dc,dc]at hs;have hlen:=congrArg List.length hs;have mD:0<x.2.2.length:=List.length_pos_iff.2 h2.1;simp only[cO,List.length_drop]at hlen;obtain⟨f',rfl⟩:∃ g,f=(g+1)+x.1.length:=⟨f-x.1.length-1,by omega⟩;rw[zg x.1 p (f'+1) acc _ h1 hs];have hd:s.drop (p+x.1.length)=x.2.2++(lO l++e):=vA hs;have hb:GX x.2 (lO l++e):=by
    cases l with
    | nil =>
      have:lO []++e=e:=by simp[lO]
      rw[this];cases e with
      | nil=>exact Nx
      | cons c e=>exact wm (he c (by simp))
    | cons y l =>
      obtain⟨k1,k2,k3,_⟩:=h4;rw[nM,dc,dc];cases hy:y.1 with
      | nil=>exact JM h2 k2 (k3 _ rfl hy)
      | cons c r=>exact wm (k1 c (by rw[hy]; simp))
   simp only[eX]at h9;rw[zh h2 hd hb,if_neg (by omega)];rw[Tc l (some x.2) _ _ f' e h4 he (vA hd) (by omega) (by simp; omega)];rw[ga,dc]; rfl
theorem TD:∀ (l:List Pc) (a:Option Tx),uA a l->∀ c∈lO l,lA c=true
 | [],_,_,c,h=>by simp[lO]at h
 | x::l,a,hl,c,h=>by
   obtain⟨h1,h2,_,h4⟩:=hl;rw[nM,fT,fT]at h;rcases h with h|h|h
   . rcases h1 c h with rfl|rfl<;>decide
   . exact Mp h2 c h
   . exact TD l _ h4 c h
theorem Ov {l:List Pc} {e:aG} (hl:uA none l) (he:vp e) (h9:l.length<=900) (uL:(lO l++e).length<=2500):ix (lO l++e)=.ok (ga 0 l):=by
 have hc:rD (lO l++e)=(0,0):=by
  unfold rD;rw[if_neg (by omega)];have:(lO l++e).findIdx? (λ c=>!lA c)=none:=by
   rw[List.findIdx?_eq_none_iff];intro c hc;rw[fT]at hc;rcases hc with hc|hc
   . simp[TD l _ hl c hc]
   . rcases he c hc with rfl|rfl<;>rfl
  rw[this]
 have:=Tc (s:=lO l++e) l none [] 0 (lO l++e).length e hl he rfl (by omega) (by simpa using h9);unfold ix;rw[hc]; simpa using this
def sO:Nat->List Pc->aG->List Pc×aG
 | _,[],e=>([],e)
 | 0,x::[],e=>([],x.1++32::e)
 | 0,x::y::l,e=>((x.1++32::y.1,y.2)::l,e)
 | k+1,x::l,e=>(x::(sO k l e).1,(sO k l e).2)
theorem GI:∀ (k:Nat) (l:List Pc) (e:aG),k<l.length->(sO k l e).1.length+1=l.length
 | _,[],e,h=>by simp at h
 | 0,x::[],e,h=>rfl
 | 0,x::y::l,e,h=>rfl
 | k+1,x::l,e,h=>by
   rw[sO,eX,eX,GI k l e (by simpa using h)]
theorem NB {a b:aG} (h:vp a) (k:vp b):vp (a++b):=λ c hc=>by
 rcases fT.1 hc with hc|hc
 . exact h c hc
 . exact k c hc
theorem JO {b:aG} (k:vp b):vp (32::b):=λ c hc=>by
 rcases cK.1 hc with rfl|hc
 . exact .inl rfl
 . exact k c hc
theorem LN:∀ (k:Nat) (l:List Pc) (e:aG) (a:Option Tx),uA a l->vp e->uA a (sO k l e).1/\vp (sO k l e).2
 | _,[],e,a,h,he=>⟨by rw[sO]; exact h,by rw[sO]; exact he⟩
 | 0,x::[],e,a,h,he=>⟨trivial,NB h.1 (JO he)⟩
 | 0,x::y::l,e,a,h,he=>by
   obtain⟨h1,h2,h3,k1,k2,k3,k4⟩:=h;refine⟨⟨NB h1 (JO k1),k2,λ z _ hz=>?_,k4⟩,he⟩;simp at hz
 | k+1,x::l,e,a,h,he=>by
   obtain⟨h1,h2,h3,h4⟩:=h;obtain⟨r1,r2⟩:=LN k l e (some x.2) h4 he;rw[sO];exact⟨⟨h1,h2,h3,r1⟩,r2⟩
theorem DU:∀ (k:Nat) (l:List Pc) (e:aG) (p:Nat) (t:Tk),(ga p l)[k]?=some t->t.s.length=1->lO (sO k l e).1++(sO k l e).2=(lO l++e).set (t.at_-p) 32/\p<=t.at_/\t.at_-p<(lO l).length
 | k,[],e,p,t,h,h1=>by simp[ga]at h
 | 0,x::l,e,p,t,h,h1=>by
   simp only[ga,List.getElem?_cons_zero,iI]at h;subst h;have h1:x.2.2.length=1:=h1;obtain⟨c,hc⟩:∃ c,x.2.2=[c]:=by
    match hx:x.2.2,h1 with
    | [c],_=>exact⟨c,rfl⟩
   have ea:p+x.1.length-p=x.1.length:=by omega
   refine⟨?_,by simp,?_⟩
   . show _=(lO (x::l)++e).set (p+x.1.length-p) 32;rw[ea,nM,hc,dc,List.set_append_right _ _ (bX _),Nat.sub_self];cases l with
     | nil=>simp[sO,lO]
     | cons y l=>simp[sO,lO]
   . show p+x.1.length-p<_;rw[ea,nM,hc]; simp
 | k+1,x::l,e,p,t,h,h1=>by
   simp only[ga,List.getElem?_cons_succ]at h;obtain⟨i1,i2,i4⟩:=DU k l e _ t h h1;refine⟨?_,by omega,by rw[nM]; simp; omega⟩;have:t.at_-p=x.1.length+(x.2.2.length+(t.at_-(p+x.1.length+x.2.2.length))):=by omega
   rw[sO,nM,nM];simp only[dc];rw[this,List.set_append_right _ _ (by omega),Nat.add_sub_cancel_left,List.set_append_right _ _ (by omega),Nat.add_sub_cancel_left,i1]
theorem OU:∀ (k:Nat) (l:List Pc) (e:aG) (p j:Nat) (t:Tk),j<k->(ga p l)[j]?=some t->(ga p (sO k l e).1)[j]?=some t
 | k,[],e,p,j,t,hj,h=>by simp[ga]at h
 | 0,x::l,e,p,j,t,hj,h=>by omega
 | k+1,x::l,e,p,0,t,hj,h=>by
   rw[sO];simpa [ga] using h
 | k+1,x::l,e,p,j+1,t,hj,h=>by
   rw[sO];simp only[ga,List.getElem?_cons_succ]at h ⊢;exact OU k l e _ j t (by omega) h
def zo:aG->List Tx->List Pc
 | _,[]=>[]
 | b,[a]=>[(b,a)]
 | b,a::c::l=>(b,a)::zo (if fG a c then [32] else []) (c::l)
theorem Im:∀ (b:aG) (l:List Tx),l≠[]->lO (zo b l)=b++cR l
 | b,[],h=>absurd rfl h
 | b,[a],_=>by simp[zo,lO,cR]
 | b,a::c::l,_=>by
   rw[zo,nM,Im _ (c::l) (by simp),nA];simp
theorem Lw:∀ (b:aG) (l:List Tx),(zo b l).map (·.2)=l
 | b,[]=>rfl
 | b,[a]=>rfl
 | b,a::c::l=>by rw[zo,dH,Lw]
theorem GA:∀ (b:aG) (l:List Tx) (a:Option Tx) (r:List Pc),(∀ x∈l,jK x)->vp b->(∀ z x,a=some z->l.head?=some x->b=[]->fG z x=false)->(∀ z,uA z r)->uA a (zo b l++r)
 | b,[],a,r,_,_,_,hr=>hr a
 | b,[x],a,r,h,hb,ha,hr=>by
   refine⟨hb,h x (by simp),?_,hr _⟩;intro z hz h0;exact ha z x hz rfl h0
 | b,x::c::l,a,r,h,hb,ha,hr=>by
   rw[zo];refine⟨hb,h x (by simp),?_,?_⟩
   . intro z hz h0;exact ha z x hz rfl h0
   . refine GA _ (c::l) (some x) r (λ y hy=>h y (by simp only[cK]at hy ⊢; exact .inr hy)) ?_ ?_ hr
     . split
       . exact λ c hc=>by simp at hc; exact .inl hc
       . exact λ c hc=>by simp at hc
     . intro z y hz hy h0;cases hz;simp only[List.head?_cons,iI]at hy;subst hy;cases xX:fG x c with
       | false=>rfl
       | true=>rw[xX]at h0; simp at h0
end Go.Rip
namespace Go.Rip
def sE:aG->List Tre->List Pc×aG
 | b,[]=>([],b)
 | b,t::us=>(zo b t.pr++(sE [10] us).1,(sE [10] us).2)
theorem HN:∀ (b:aG) (us:List Tre),(∀ t∈us,t.pr≠[])->lO (sE b us).1++(sE b us).2=b++fM us
 | b,[],_=>by simp[sE,lO,fM]
 | b,t::us,h=>by
   have ih:=HN [10] us λ u hu=>h u (by simp[hu]);rw[sE,ab2,Im b t.pr (h t (by simp)),dc,dc,ih];simp[fM]
theorem K4:∀ (b:aG) (us:List Tre),(sE b us).1.map (·.2)=fN us
 | b,[]=>rfl
 | b,t::us=>by
   rw[sE,List.map_append,Lw,K4]; rfl
theorem Zf:vp [10]:=λ c hc=>by simp at hc; exact .inr hc
theorem K3:∀ (b:aG) (us:List Tre),vp b->vp (sE b us).2
 | b,[],h=>h
 | b,t::us,h=>K3 [10] us Zf
theorem HM:∀ (us:List Tre),(∀ t∈us,∀ x∈t.pr,jK x)->∀ z,uA z (sE [10] us).1
 | [],_,_=>trivial
 | t::us,h,z=>by
   rw[sE];exact GA [10] t.pr z _ (h t (by simp)) Zf (λ _ _ _ _ h0=>by simp at h0) (HM us λ u hu=>h u (by simp[hu]))
theorem aby:∀ (us:List Tre),(∀ t∈us,∀ x∈t.pr,jK x)->uA none (sE [] us).1
 | [],_=>trivial
 | t::us,h=>by
   rw[sE];exact GA [] t.pr none _ (h t (by simp)) (λ c hc=>by simp at hc) (λ z x hz _ _=>by cases hz) (HM us λ u hu=>h u (by simp[hu]))
theorem OV (u:aG) {a b:Nat} (Ez:a<b) (hb:b<u.length):(u.set b 32).set a 32=u.take a++32::((u.drop (a+1)).take (b-(a+1))++32::u.drop (b+1)):=by
 rw[List.set_eq_take_append_cons_drop,if_pos (by simp; omega),List.set_eq_take_append_cons_drop,if_pos hb];have h1:(u.take b++32::u.drop (b+1)).take a=u.take a:=by
  rw[List.take_append_of_le_length (by simp; omega),List.take_take];congr 1; omega
 have h2:(u.take b++32::u.drop (b+1)).drop (a+1)=(u.drop (a+1)).take (b-(a+1))++32::u.drop (b+1):=by
  rw[List.drop_append_of_le_length (by simp; omega),List.drop_take]
 rw[h1,h2]
theorem F6 {s:aG} {l:List Nd} {p:Int} (h:kZ s=(l,p,0)) {u:aG} (hu:lC l 0=(u,0)) :
 ∃ L:List Tk,ix u=.ok L/\u.length<=2500/\mw [] (L.map tx)=true/\(∀ x∈L,kB x/\x.at_<u.length)/\L.length<=900 /\
  ∀ (k q:Nat) (tk tq:Tk),L[k]?=some tk->L[q]?=some tq->k<q->tk.s=bK->tq.s=bJ ->
   tk.at_<tq.at_/\tq.at_<u.length/\∀ v p',kZ (u.take tk.at_++32::((u.drop (tk.at_+1)).take (tq.at_-(tk.at_+1))++32::u.drop (tq.at_+1)))=(v,p',0)->fR v=0/\eU v≠eU l:=by
 obtain⟨L0,t,hl,rfl,hk,hc,hd,Ho,yV,Xs⟩:=zn h;have ht:=wW hc hk;have tb:=Ow hl;have hlen:=hd.len;have htd:=(hd.tl λ x hx=>by
  obtain⟨y,hy,rfl⟩:=List.mem_map.1 hx;exact yV y hy).1
 rw[List.length_map]at hlen;rw[BM _ _ λ u hu=>by have:=Gn hu; omega,eH]at ht
 by_cases hb:2500<(fM t.kids).length
 . rw[if_pos hb,hu]at ht;simp at ht
 rw[if_neg hb,hu]at ht;simp only[hY,and_true]at ht;subst ht;obtain⟨t',e',k1,k2,k9,_⟩:=p4 hc;obtain rfl:=Tre.yU e';obtain⟨AY,_⟩:=qd k1 k2 k9;have hTx:∀ c∈t.kids,∀ x∈c.pr,jK x:=λ c oP=>Fi _ c (bX _) (AY c oP).1;have ca:∀ c∈t.kids,c.pr≠[]:=λ c oP e=>by
  obtain⟨w,r,hw,_⟩:=DC (AY c oP).1 (AY c oP).2.1;rw[e]at hw; cases hw
 have uY:=HN [] t.kids ca;rw[eH]at uY;have Xt:=K4 [] t.kids;have cS:=aby t.kids hTx;have Xj:=K3 [] t.kids (λ c hc=>by simp at hc);generalize hP:sE [] t.kids=P at *;obtain⟨ps,e⟩:=P;simp only at uY Xt cS Xj;have nj:ps.length=(fN t.kids).length:=by rw[<- Xt]; simp
 have EF:=Ov cS Xj (by omega) (by rw[uY]; omega);rw[uY]at EF;have sB:(ga 0 ps).map tx=fN t.kids:=by rw[D2,Xt]
 have akn:(ga 0 ps).length=ps.length:=by
  have:=congrArg List.length sB;rw[List.length_map]at this;omega
 obtain⟨hTk,hT9⟩:=vn EF;refine⟨ga 0 ps,EF,by omega,by rw[sB]; exact abz λ c oP=>(AY c oP).1,λ x hx=>⟨hTk x hx,?_⟩,hT9,?_⟩
 . have:∀ (p:Nat) (l:List Pc) (x:Tk),x∈ga p l->(∀ a,uA a l->x.at_<p+(lO l).length):=by
    intro p l
    induction l generalizing p with
    | nil=>intro x hx; simp[ga]at hx
    | cons y l ih =>
      intro x hx a hy;obtain⟨_,h2,_,h4⟩:=hy;have mD:0<y.2.2.length:=List.length_pos_iff.2 h2.1;simp only[ga,cK]at hx;rw[nM,cO,cO];rcases hx with rfl|hx
      . show p+y.1.length<_;omega
      . have:=ih _ x hx _ h4;omega
   have:=this 0 ps x hx _ cS;rw[<- uY,cO];omega
 . intro k q tk tq x9 SI N3 iW hqs;have hql:q<ps.length:=by have:=(dp.1 SI).1; omega
   have ta:k<ps.length:=by omega
   obtain⟨a1,a2,a3⟩:=DU q ps e 0 tq SI (by rw[hqs]; rfl);obtain⟨b1,b2⟩:=LN q ps e none cS Xj;have gD:=OU q ps e 0 k tk N3 x9;have EJ:=GI q ps e hql;generalize hR:sO q ps e=R1 at *;obtain⟨ps1,e1⟩:=R1;simp only at a1 b1 b2 gD EJ;obtain⟨c1,c2,c3⟩:=DU k ps1 e1 0 tk gD (by rw[iW]; rfl);obtain⟨d1,d2⟩:=LN k ps1 e1 none b1 b2;have uk:=GI k ps1 e1 (by omega);generalize hR2:sO k ps1 e1=R2 at *;obtain⟨ps2,e2⟩:=R2;simp only at c1 d1 d2 uk;rw[a1,uY]at c1;simp only[Nat.sub_zero]at c1 a3;have aN:tk.at_<tq.at_:=by
    have key:∀ (p:Nat) (l:List Pc) (i j:Nat) (x y:Tk) (a:Option Tx),uA a l->(ga p l)[i]?=some x->(ga p l)[j]?=some y->i<j->x.at_<y.at_/\p<=x.at_:=by
     intro p l
     induction l generalizing p with
     | nil=>intro i j x y a _ hx; simp[ga]at hx
     | cons z l ih =>
       intro i j x y a hz hx hy gq;obtain⟨_,h2,_,h4⟩:=hz;have mD:0<z.2.2.length:=List.length_pos_iff.2 h2.1;have low:∀ (p:Nat) (l:List Pc) (j:Nat) (y:Tk),(ga p l)[j]?=some y->p<=y.at_:=by
        intro p l
        induction l generalizing p with
        | nil=>intro j y hy; simp[ga]at hy
        | cons z l ih =>
          intro j y hy;cases j with
          | zero=>simp only[ga,List.getElem?_cons_zero,iI]at hy; subst hy; show p<=p+_; omega
          | succ j =>
            simp only[ga,List.getElem?_cons_succ]at hy;have:=ih _ j y hy;omega
       cases j with
       | zero=>omega
       | succ j =>
         simp only[ga,List.getElem?_cons_succ]at hy;cases i with
         | zero =>
           simp only[ga,List.getElem?_cons_zero,iI]at hx;subst hx;have:=low _ l j y hy;exact⟨by show p+z.1.length<_; omega,by show p<=p+_; omega⟩
         | succ i =>
           simp only[ga,List.getElem?_cons_succ]at hx;obtain⟨q1,q2⟩:=ih _ i j x y _ h4 hx hy (by omega);exact⟨q1,by omega⟩
    exact (key 0 ps k q tk tq none cS x9 SI N3).1
   have hub:tq.at_<(fM t.kids).length:=by rw[<- uY,cO]; omega
   refine⟨aN,hub,λ v p' hv=>?_⟩;rw[<- OV _ aN hub,<- c1]at hv;obtain⟨L2,t2,pP,rfl,akA,x5,qV,_⟩:=zn hv;refine⟨x5,λ Jd=>?_⟩;have akk:(lO ps2++e2).length=(fM t.kids).length:=by rw[c1]; simp
   rw[Ov d1 d2 (by omega) (by omega)]at pP;injection pP with pP
   have ZC:=qV.len;rw[<- pP,List.length_map]at ZC;have NS:(ga 0 ps2).length=ps2.length:=by
    have:=congrArg List.length (D2 0 ps2);simpa using this
   obtain⟨t3,e3,Z1,k2',k9',_⟩:=p4 x5;obtain rfl:=Tre.yU e3;obtain⟨_,z,ez⟩:=qd k1 k2 k9;obtain⟨_,z',ez'⟩:=qd Z1 k2' k9';rw[B1,B1,ez,ez',Tre.dZ,Tre.dZ]at Jd;have wB:=Ek Jd;simp only[eX]at wB;have h2:bz (Tre.bu t2.kids++[])=bz (Tre.bu t.kids++[]):=by
    simp only[bz,dH,List.cons.injEq,gx]at Jd ⊢;exact Jd.2
   have hpr:=(Jp _ _ _ [] [] (bX _) h2 (by omega)).1;have hX:fN t2.kids=fN t.kids:=by
    have:∀ ts qH:List Tre,ts.map (λ t=>(t.kind,t.pr))=qH.map (λ t=>(t.kind,t.pr))->fN ts=fN qH:=by
     intro ts qH h;have e1:∀ ts:List Tre,fN ts=(ts.map (λ t=>(t.kind,t.pr))).flatMap (·.2):=λ ts=>by rw[List.flatMap_map]; rfl
     rw[e1,e1,h]
    exact this _ _ hpr
   rw[hX]at ZC;omega
end Go.Rip
namespace Go.Rip
open Go.Proofs Go.RowKit
theorem ahv {bt:BT} {l:Bool} {a b:Int} {U:St} {K' Kp:AV->St->Prop}:(aw .rem bt l (.int .i64 a) (.int .i64 b)).wp K U K' Kp=(b≠0/\K' (.int .i64 (a.tmod b)) U):=by rw[MF]; rfl
section
variable {b c n:Nat} {U ar aS ad:St} {v:AV} {bB l rest xs:List Tx} {L:List Nd} {t:Tre}
theorem YE {l:List Tk}:pa U (iB l)=some (l.length,gO l):=by
 unfold iB;split
 . rename_i h; subst h; rfl
 . rfl
theorem YO (l:List Tk):(gO l).length=l.length*3:=by
 induction l with
 | nil=>rfl
 | cons x l ih =>
   have:(gO (x::l)).length=3+(gO l).length:=by simp[gO,jM]; omega
   rw[this,ih,eX]; omega
end
end Go.Rip
namespace Go.Rip
open Go.Proofs Go.RowKit
section
variable {U ad:St} {vl:AV} {L:List Tk} {R:cV->St->Prop}
theorem D0 {i:Nat} {x:Tk} (h:L[i]?=some x):∃ r,(gO L).drop (i*3)=jM x++r:=by
 rw[IG,gM (dp.1 h).1];refine⟨gO (L.drop (i+1)),?_⟩;have:=(dp.1 h).2;simp[gO,this]
theorem afY {i:Nat} {x:Tk} {K':AV->St->Prop} {Kp:AV->St->Prop} (hv:eW vl L.length (gO L)) (hx:L[i]?=some x) (hk:K' (.agg (jM x)) U) :
 (aE (some (51,3)) none vl (.int .i64 (i:Nat))).wp K U (λ p U=>(ak (some (true,3)) p U).wp K U K' Kp) Kp:=by
 have aN:=(dp.1 hx).1;obtain⟨r,hr⟩:=D0 hx;rcases hv with ⟨h1,_,_⟩|⟨c,rfl⟩
 . omega
 . rw[zN,fW,hr];refine⟨by omega,?_⟩;rw[tS];exact⟨by simp[jM],hk⟩
end
end Go.Rip
namespace Go.Rip
open Go.Proofs Go.RowKit
def jZ:List Tx->Nat->List Int->List Nat->List Int
 | [],_,out,_=>out
 | x::l,i,out,st =>
   if x.2=bK\/x.2=gQ then jZ l (i+1) (out++[-1]) (i::st)
   else if x.2=bJ\/x.2=jJ then jZ l (i+1) (((out++[-1]).set i (st.headD 0:Nat)).set (st.headD 0) (i:Nat)) st.tail
   else jZ l (i+1) (out++[-1]) st
def mS (L:List Tk) (k:Nat):aG:=(L[k]?.map Tk.s).getD []
theorem tQ {L:List Tk} {k:Nat} {t:Tk} (h:L[k]?=some t):mS L k=t.s:=by unfold mS; rw[h]; rfl
def wg (L:List Tk) (n:Nat) (out:List Int) (k:Nat):Prop:=out[k]?=some (-1)\/∃ q:Nat,out[k]?=some (q:Int)/\q<n/\(k<q->mS L k=bK->mS L q=bJ)
structure uz (L:List Tk) (i:Nat) (out:List Int) (st:List Nat) (nU:List Bool):Prop where
 len:out.length=i
 map:st.map (λ o=>decide (mS L o=bK))=nU
 mem:∀ o∈st,o<i/\(mS L o=bK\/mS L o=gQ)
 Ge:∀ k,k<i->wg L i out k
 Zi:st.length<=i
section
variable {L:List Tk} {i:Nat} {out:List Int} {st:List Nat} {nU:List Bool} {t:Tk}
theorem wg.more {k:Nat} (h:wg L i out k) (hk:k<out.length) (z:Int):wg L (i+1) (out++[z]) k:=by
 rcases h with h|⟨q,h1,h2,h3⟩
 . exact .inl (by rw[uG hk]; exact h)
 . exact .inr ⟨q,by rw[uG hk]; exact h1,by omega,h3⟩
theorem uz.none (h:uz L i out st nU):uz L (i+1) (out++[-1]) st nU:=by
 refine⟨by simp[h.len],h.map,λ o ho=>⟨by have:=(h.mem o ho).1; omega,(h.mem o ho).2⟩,λ k hk=>?_,by have:=h.Zi; omega⟩
 by_cases Aa:k<i
 . exact (h.Ge k Aa).more (by rw[h.len]; exact Aa) _
 . obtain rfl:k=i:=by omega
   exact .inl (by rw[<- h.len,List.getElem?_append_right (bX _)]; simp)
theorem uz.push (h:uz L i out st nU) (ht:mS L i=bK\/mS L i=gQ):uz L (i+1) (out++[-1]) (i::st) (decide (mS L i=bK)::nU):=by
 have h1:=h.none;refine⟨h1.len,by rw[dH,h.map],λ o ho=>?_,h1.Ge,by have:=h.Zi; simp; omega⟩;rcases cK.1 ho with rfl|ho
 . exact⟨by omega,ht⟩
 . exact h1.mem o ho
theorem uz.pop {o:Nat} {b:Bool} {qk:List Bool} {kL:List Nat} (h:uz L i out (o::kL) (b::qk)) (ht:b=true->mS L i=bJ):uz L (i+1) (((out++[-1]).set i (o:Nat)).set o (i:Nat)) kL qk/\o<i/\b=decide (mS L o=bK):=by
 have h1:=h.none;have hm:=h.map;rw[dH,List.cons.injEq]at hm;have ho:=(h.mem o (by simp)).1;refine⟨⟨by simp[h.len],hm.2,λ p hp=>h1.mem p (by simp[hp]),λ k hk=>?_,by have:=h.Zi; simp at this; omega⟩,ho,hm.1.symm⟩;have hlen:(out++[-1]).length=i+1:=by simp[h.len]
 by_cases N2:k=o
 . subst N2;refine .inr ⟨i,by rw[List.getElem?_set_self (by simp[h.len]; omega)],by omega,λ _ P0=>ht ?_⟩;rw[<- hm.1,decide_eq_true P0]
 . by_cases Aa:k=i
   . subst Aa;refine .inr ⟨o,by rw[List.getElem?_set_ne (Ne.symm N2),List.getElem?_set_self (by rw[hlen]; omega)],by omega,λ h'=>by omega⟩
   . have:=h1.Ge k (by omega);unfold wg;rw[List.getElem?_set_ne (Ne.symm N2),List.getElem?_set_ne (Ne.symm Aa)];exact this
theorem JL {x:Tx} {l:List Tx}:mw nU (x::l)=if x.2=bK then mw (true::nU) l else if x.2=gQ then mw (false::nU) l else if x.2=bJ then (vQ true nU).elim false λ kL=>mw kL l else if x.2=jJ then (vQ false nU).elim false λ kL=>mw kL l else mw nU l:=rfl
theorem Nv {b:Bool} {l:List Tx} (h:((vQ b nU).elim false λ kL=>mw kL l)=true):∃ qk,nU=b::qk/\mw qk l=true:=by
 cases nU with
 | nil=>cases h
 | cons c qk =>
   by_cases hc:c=b
   . subst hc;rw[show vQ c (c::qk)=some qk by simp[vQ]]at h;exact⟨qk,rfl,h⟩
   . rw[show vQ b (c::qk)=none by simp[vQ,hc]]at h;cases h
theorem sK:∀ (l:List Tk) (i:Nat) (out:List Int) (st:List Nat) (nU:List Bool),uz L i out st nU->L.drop i=l->mw nU (l.map tx)=true->(jZ (l.map tx) i out st).length=i+l.length/\∀ k,k<i+l.length->wg L (i+l.length) (jZ (l.map tx) i out st) k
 | [],i,out,st,nU,h,hl,hb=>⟨h.len,h.Ge⟩
 | t::l,i,out,st,nU,h,hl,hb=>by
   have hx:L[i]?=some t:=by
    have:(L.drop i)[0]?=some t:=by rw[hl]; rfl
    simpa using this
   have qW:L.drop (i+1)=l:=by rw[<- List.drop_drop,hl]; rfl
   have jV:mS L i=t.s:=tQ hx;rw[dH,JL]at hb;have e2:(tx t).2=t.s:=rfl;rw[e2]at hb;rw[dH,jZ,e2,eX,show i+(l.length+1)=(i+1)+l.length by omega]
   by_cases c1:t.s=bK
   . rw[if_pos c1]at hb;rw[if_pos (.inl c1)];have:=h.push (.inl (jV.trans c1));rw[jV,decide_eq_true c1]at this;exact sK l _ _ _ _ this qW hb
   rw[if_neg c1]at hb
   by_cases c2:t.s=gQ
   . rw[if_pos c2]at hb;rw[if_pos (.inr c2)];have:=h.push (.inr (jV.trans c2));rw[jV,decide_eq_false c1]at this;exact sK l _ _ _ _ this qW hb
   rw[if_neg c2]at hb;rw[if_neg (by rintro (h|h); exact c1 h; exact c2 h)];have pop:∀ (b:Bool),(b=true->t.s=bJ)->((vQ b nU).elim false λ kL=>mw kL (l.map tx))=true->(jZ (l.map tx) (i+1) (((out++[-1]).set i (st.headD 0:Nat)).set (st.headD 0) (i:Nat)) st.tail).length=(i+1)+l.length/\∀ k,k<(i+1)+l.length->wg L ((i+1)+l.length) (jZ (l.map tx) (i+1) (((out++[-1]).set i (st.headD 0:Nat)).set (st.headD 0) (i:Nat)) st.tail) k:=by
    intro b NX hb;obtain⟨qk,rfl,eY⟩:=Nv hb;cases st with
    | nil=>exact absurd h.map (by simp)
    | cons o kL=>exact sK l _ _ _ _ (h.pop λ hb=>jV.trans (NX hb)).1 qW eY
   by_cases c3:t.s=bJ
   . rw[if_pos c3]at hb;rw[if_pos (.inl c3)];exact pop true (λ _=>c3) hb
   rw[if_neg c3]at hb
   by_cases c4:t.s=jJ
   . rw[if_pos c4]at hb;rw[if_pos (.inr c4)];exact pop false (λ h=>by cases h) hb
   rw[if_neg c4]at hb;rw[if_neg (by rintro (h|h); exact c3 h; exact c4 h)];exact sK l _ _ _ _ h.none qW hb
end
theorem QF {L:List Tk} (hb:mw [] (L.map tx)=true):(jZ (L.map tx) 0 [] []).length=L.length/\∀ k,k<L.length->wg L L.length (jZ (L.map tx) 0 [] []) k:=by
 have:=sK (L:=L) L 0 [] [] [] ⟨rfl,rfl,λ o ho=>(by cases ho),λ k hk=>by omega,bX _⟩ rfl hb;simpa using this
theorem Mi {t:Tk} (h:jK (tx t)):Pure K 156 [.agg (jM t)] (.bool true):=by
 have hs:t.s.length<=12:=wa h;refine Pure.of rfl rfl (λ U=>rfl) λ R hR=>?_;refine Iu ?_;unfold LR;rw[gd rfl];intro b1 iN;have m1:((bU ⟨.e,0⟩).new b1 (.box (av (.agg (jM t))))).box b1=some (jM t):=aD;generalize (bU _).new b1 _=ar at *;refine gR (ej m1 rfl ((yT t.s (by omega)).go ?_));have h2:iK t.s=(0,t.k,t.s):=h.2;rw[h2];simp only[GP,bp,List.drop,bC];rw[cm];intro b3 lu;have m3:(ar.new b3 (.box [AV.int .u8 0,AV.str [],AV.int .i64 0])).box b3=some [AV.int .u8 0,AV.str [],AV.int .i64 0]:=aD;have n13:=lu.bO m1;have m1:=(bg lu (x:=.box [AV.int .u8 0,AV.str [],AV.int .i64 0])).aY m1;generalize ar.new b3 _=aS at *;rw[cI m3];refine⟨⟨rfl,rfl,by simp⟩,?_⟩;have m3:(aS.set b3 (.box (ay [AV.int .u8 0,AV.str [],AV.int .i64 0] 0 (av (.agg [.int .u8 t.k,.str t.s,.int .i64 0]))))).box b3=some [.int .u8 t.k,.str t.s,.int .i64 0]:=by rw[aT]; rfl
 have m1:(aS.set b3 (.box (ay [AV.int .u8 0,AV.str [],AV.int .i64 0] 0 (av (.agg [.int .u8 t.k,.str t.s,.int .i64 0]))))).box b1=some (jM t):=by rw[aO n13]; exact m1
 generalize aS.set b3 _=bf at *;simp only[bA,al,dG,bo,iY,aP,cB];refine jL (eZ m3 rfl (jL (eZ m1 rfl ?_)));simp only[bA,aJ,dG,aQ,if_true,al,bo,iY,aP,cB];refine jL (eZ m3 rfl (jL (eZ m1 rfl ?_)));simp only[gZ,aJ,dG,aQ,if_true,al];exact aq.mk (hR _)
theorem X5 {U:St} {vl:AV} {L:List Tk} {R:cV->St->Prop} (hv:eW vl L.length (gO L)) (ho:∀ x∈L,jK (tx x)) (hl:L.length<=900) (h:∀ ad,cX U ad->R (.ret (.int .i64 0)) ad):ae K 93 [vl] U R:=by
 refine LY ?_;unfold QT;rw[hv.len,al,eM,al,decide_eq_false (by omega)];refine cY ?_;rw[al];refine⟨λ m w8 w9 wZ ad=>∃ i:Nat,m=L.length-i/\i<=L.length/\w8=vl/\w9=.int .i64 L.length/\wZ=.int .i64 (i:Nat)/\cX U ad,⟨_,0,rfl,by omega,rfl,rfl,rfl,cX.refl U⟩,?_⟩;rintro m w8 w9 wZ aS ⟨i,rfl,hi,rfl,rfl,rfl,e1⟩;rw[bV,al];refine ic (λ aN=>?_) λ kV=>aq.mk (h _ e1);have aN:i<L.length:=by omega
 obtain⟨x,hx⟩:∃ x,L[i]?=some x:=⟨L[i],by simp[aN]⟩;refine afY hv hx ?_;rw[cm];intro b4 gk;have m4:(aS.new b4 (.box [AV.int .u8 0,AV.str [],AV.int .i64 0])).box b4=some [AV.int .u8 0,AV.str [],AV.int .i64 0]:=aD;have e2:=e1.new gk (x:=.box [AV.int .u8 0,AV.str [],AV.int .i64 0]);have f4:=e1.fresh gk.1;generalize aS.new b4 _=bf at *;rw[cI m4];refine⟨⟨rfl,rfl,by simp[jM]⟩,?_⟩;have m4:(bf.set b4 (.box (ay [AV.int .u8 0,AV.str [],AV.int .i64 0] 0 (av (.agg (jM x)))))).box b4=some (jM x):=by rw[aT]; rfl
 have e3:=e2.set f4 (x:=.box (ay [AV.int .u8 0,AV.str [],AV.int .i64 0] 0 (av (.agg (jM x)))));generalize bf.set b4 _=bR at *;rw[ph m4];refine⟨by simp[jM],(Mi (ho x (gw hx))).go ?_⟩;simp only[eT,al,dm];refine cY ?_;rw[dO];exact⟨bI (by omega) (by omega),L.length-(i+1),by omega,i+1,rfl,by omega,rfl,rfl,by simp,e3⟩
end Go.Rip
namespace Go.Rip
open Go.Proofs Go.RowKit
structure zW (ar U:St) (v6 v7:AV) (out os:List Int):Prop where
 o:(out=[]/\v6=.ag)\/∃ b,v6=.ms b 0 out.length 1 3/\U.box b=some (out.map (.int .i64))/\(∀ k,v7≠.ms b 0 k 1 3)/\ar.live b=none/\out≠[]
 p:(os=[]/\v7=.ag)\/∃ b fV,v7=.ms b 0 os.length 1 3/\U.box b=some (os.map (.int .i64)++fV)/\ar.live b=none
 ex:cX ar U
section
variable {ar U ad:St} {v6 v7:AV} {out os:List Int} {K':AV->St->Prop} {Kp:AV->St->Prop}
theorem zW.mono (h:zW ar U v6 v7 out os) (e:cX U ad):zW ar ad v6 v7 out os:=by
 obtain⟨h1,h2,h3⟩:=h;refine⟨?_,?_,h3.trans e⟩
 . rcases h1 with h1|⟨b,a1,a2,a3,a4⟩
   . exact .inl h1
   . exact .inr ⟨b,a1,e.aY a2,a3,a4⟩
 . rcases h2 with h2|⟨b,fV,a1,a2,a3⟩
   . exact .inl h2
   . exact .inr ⟨b,fV,a1,e.aY a2,a3⟩
theorem zW.aeW (h:zW ar U v6 v7 out os):cr (some false) v7=.val (.int .i64 os.length):=by
 rcases h.p with ⟨rfl,rfl⟩|⟨b,fV,rfl,_⟩<;>rfl
def Oth (v:AV) (U ad:St):Prop:=∀ b x,(∀ k,v≠.ms b 0 k 1 3)->U.box b=some x->ad.box b=some x
theorem OQ {b b' k n:Nat} {x:List AV} (hf:(U.del b).dL b'):Oth (.ms b 0 n 1 3) U ((U.del b).new b' (.box x)):=λ c y hc hy=>by
 have Zt:c≠b:=λ e=>hc n (by rw[e]);have h1:(U.del b).box c=some y:=by rw[jl Zt]; exact hy
 have h2:c≠b':=hf.bO h1;rw[oU h2]; exact h1
theorem ab3 {bx:Nat} {a:Int} (h:zW ar U v6 v7 out os) (hy:U.box bx=some [.int .i64 a]) (hl:out.length<=100000)
 (hk:∀ ad v',zW ar ad v' v7 (out++[a]) os->Oth v6 U ad->K' v' ad):(dB (some (3,1)) true v6 (.ms bx 0 1 1 3) U).wp K U K' Kp:=by
 have xn:pa U (.ms bx 0 1 1 3)=some (1,[.int .i64 a]):=by simp[pa,hy]
 obtain⟨h1,h2,h3⟩:=h;rcases h1 with ⟨rfl,rfl⟩|⟨b,rfl,a2,a3,a4,a5⟩
 . simp only[dB,xn,wp_cond];refine⟨rfl,by omega,λ b hf=>?_⟩;rw[show U.so none=U from rfl]at *;have e:=bg hf (x:=.box [AV.int .i64 a]);refine hk _ _ ⟨.inr ⟨b,rfl,aD,λ k hv=>?_,h3.fresh hf.1,by simp⟩,?_,h3.trans e⟩ λ c y _ hc=>e.aY hc
   . rcases h2 with ⟨_,rfl⟩|⟨c,fV,rfl,c2,_⟩
     . cases hv
     . injection hv with hv
       exact hf.bO c2 hv
   . rcases h2 with h2|⟨c,fV,c1,c2,c3⟩
     . exact .inl h2
     . exact .inr ⟨c,fV,c1,e.aY c2,c3⟩
 . refine BV a2 xn ⟨rfl,by simp,by omega⟩ λ b' hf=>?_;have ot:=OQ (n:=out.length) (x:=(out.map (AV.int .i64)).take (out.length*1)++[AV.int .i64 a]) (k:=0) hf;have hd:b'=b\/U.live b'=none:=by
    by_cases e:b'=b
    . exact .inl e
    . right; have:=hf.1; rwa [jX,if_neg e]at this
   have wA:ar.live b'=none:=by
    rcases hd with rfl|hd
    . exact a4
    . exact h3.fresh hd
   refine hk _ _ ⟨.inr ⟨b',by simp,?_,λ k hv=>?_,wA,by simp⟩,?_,(h3.del a4).new hf⟩ ot
   . rw[aD,Nat.mul_one,qg (by simp)]; simp
   . rcases h2 with ⟨_,rfl⟩|⟨c,fV,rfl,c2,_⟩
     . cases hv
     . injection hv with hv
       subst hv;rcases hd with rfl|hd
       . exact a3 _ rfl
       . exact ct c2 hd
   . rcases h2 with h2|⟨c,fV,rfl,c2,c3⟩
     . exact .inl h2
     . exact .inr ⟨c,fV,rfl,ot c _ (λ k hv=>by injection hv with hv; subst hv; exact a3 _ rfl) c2,c3⟩
theorem ab4 {bx:Nat} {a:Int} (h:zW ar U v6 v7 out os) (hy:U.box bx=some [.int .i64 a]) (hl:os.length<=100000)
 (hk:∀ ad v',zW ar ad v6 v' out (os++[a])->K' v' ad):(dB (some (3,1)) true v7 (.ms bx 0 1 1 3) U).wp K U K' Kp:=by
 have xn:pa U (.ms bx 0 1 1 3)=some (1,[.int .i64 a]):=by simp[pa,hy]
 obtain⟨h1,h2,h3⟩:=h;rcases h2 with ⟨rfl,rfl⟩|⟨b,fV,rfl,a2,a4⟩
 . simp only[dB,xn,wp_cond];refine⟨rfl,by omega,λ b hf=>?_⟩;rw[show U.so none=U from rfl]at *;have e:=bg hf (x:=.box [AV.int .i64 a]);refine hk _ _ ⟨?_,.inr ⟨b,[],rfl,by rw[gx]; exact aD,h3.fresh hf.1⟩,h3.trans e⟩;rcases h1 with h1|⟨c,c1,c2,c3,c4⟩
   . exact .inl h1
   . exact .inr ⟨c,c1,e.aY c2,λ k hv=>by injection hv with hv; exact hf.bO c2 hv.symm,c4⟩
 . refine BV a2 xn ⟨rfl,by simp,by omega⟩ λ b' hf=>?_;have ot:=OQ (n:=os.length) (x:=(os.map (AV.int .i64)++fV).take (os.length*1)++[AV.int .i64 a]) (k:=0) hf;have hd:b'=b\/U.live b'=none:=by
    by_cases e:b'=b
    . exact .inl e
    . right; have:=hf.1; rwa [jX,if_neg e]at this
   have wA:ar.live b'=none:=by
    rcases hd with rfl|hd
    . exact a4
    . exact h3.fresh hd
   refine hk _ _ ⟨?_,.inr ⟨b',[],by simp,?_,wA⟩,(h3.del a4).new hf⟩
   . rcases h1 with h1|⟨c,c1,c2,c3,c4⟩
     . exact .inl h1
     . refine .inr ⟨c,c1,ot c _ (λ k hv=>by injection hv with hv; exact c3 _ (by rw[hv])) c2,λ k hv=>?_,c4⟩
       injection hv with hv
       subst hv;rcases hd with rfl|hd
       . exact c3 _ rfl
       . exact ct c2 hd
   . rw[aD,Nat.mul_one,List.take_append_of_le_length (by simp),qg (by simp)];simp
theorem ae8 {b6 b7 i o:Nat} {fV:List AV} (h3:cX ar U) (m6:U.box b6=some (out.map (.int .i64))) (z6:ar.live b6=none) (ca:b7≠b6) {os':List Int} (m7:U.box b7=some ((os'++[(o:Int)]).map (.int .i64)++fV)) (z7:ar.live b7=none) (hi:i<out.length) (ho:o<out.length) :
 zW ar ((U.set b6 (.box (ay (out.map (.int .i64)) i (av (.int .i64 (o:Int)))))).set b6 (.box (ay (ay (out.map (.int .i64)) i (av (.int .i64 (o:Int)))) o (av (.int .i64 (i:Int)))))) (.ms b6 0 out.length 1 3) (.ms b7 0 os'.length 1 3) ((out.set i (o:Int)).set o (i:Int)) os':=by
 have sp:∀ (l:List Int) (k:Nat) (z:Int),k<l.length->ay (l.map (AV.int .i64)) k (av (.int .i64 z))=(l.set k z).map (.int .i64):=by
  intro l k z hk;rw[List.set_eq_take_append_cons_drop,if_pos hk];simp[ay,av,List.map_take,List.map_drop]
 refine⟨.inr ⟨b6,by simp,?_,λ k hv=>?_,z6,λ h=>by have:=congrArg List.length h; simp at this; rw[this]at hi; simp at hi⟩,.inr ⟨b7,.int .i64 (o:Int)::fV,rfl,?_,z7⟩,(h3.set z6).set z6⟩
 . rw[aT,sp _ _ _ hi,sp _ _ _ (by simpa using ho)]
 . injection hv with hv; exact ca hv
 . rw[aO ca,aO ca,m7]; simp
end
def oy (st:List Nat):List Int:=st.reverse.map λ n:Nat=>(n:Int)
theorem Ik (o:Nat) (st:List Nat):oy (o::st)=oy st++[(o:Int)]:=by simp[oy]
theorem Lu (st:List Nat):(oy st).length=st.length:=by simp[oy]
def rq (os:List Int):AV:=if os=[] then .ag else .vec os.length .iE (os.map (.int .i64))
theorem X8 (n:Nat) (U:St) (l:List Int):(l.map (AV.int .i64)).map (resolve (n+1) U)=l.map (.int .i64):=by
 rw[List.map_map]; rfl
theorem abc (l:List Int):cD (l.map (AV.int .i64))=true:=by
 induction l with
 | nil=>rfl
 | cons a l ih=>exact ih
theorem ND {U:St} {z:Int} {K':AV->St->Prop} {Kp:AV->St->Prop} (h:∀ b,U.dL b->K' (.ms b 0 1 1 3) (U.new b (.box [.int .i64 z]))):(au (some (3,1)) (some [AV.int .i64 0]) 1 true [(0,.int .i64 z)]).wp K U K' Kp:=by
 rw[ux];refine⟨by omega,?_⟩;rw[ff (o:=0) (s:=1) rfl];refine⟨⟨rfl,rfl,by simp[bT]⟩,?_⟩;rw[yE];exact⟨rfl,h⟩
theorem Zn {U:St} {vl gv:AV} {L:List Tk} {i:Nat} {x:Tk} {k:AV->Prop} (hg:gv=.bool true) (hv:eW vl L.length (gO L)) (hx:L[i]?=some x) (hk:k (.str x.s)) :
 ao K gv (aE (some (51,3)) none vl (.int .i64 (i:Nat))) λ p=>ao K gv (af (some 1) p) λ q=>ao K gv (ak (some (false,1)) q U) k:=by
 have aN:=(dp.1 hx).1;obtain⟨r,hr⟩:=D0 hx;subst hg;simp only[aP,cB];rcases hv with ⟨h1,_,_⟩|⟨c,rfl⟩
 . omega
 . rw[LA,fW,hr];refine⟨by omega,?_⟩;simp only[dC,aJ];rw[qf];exact hk
theorem Du (l:List Int) (z:Int) (fV:List AV):((l++[z]).map (AV.int .i64)++fV).drop (0+l.length*1)=.int .i64 z::fV:=by
 rw[db,Nat.mul_one,List.map_append,dc,List.drop_append_of_le_length (by simp),List.drop_of_length_le (by simp)]; rfl
theorem FQ {bt:BT} {b:Bool} {U:St} {K' Kp:AV->St->Prop} {s u:aG} (h:s=u) (hk:K' (.bool true) U):(aw .eql bt b (.str s) (.str u)).wp K U K' Kp:=by rw[gZ,al,decide_eq_true h]; exact hk
theorem FP {bt:BT} {b:Bool} {U:St} {K' Kp:AV->St->Prop} {s u:aG} (h:s≠u) (hk:K' (.bool false) U):(aw .eql bt b (.str s) (.str u)).wp K U K' Kp:=by rw[gZ,al,decide_eq_false h]; exact hk
theorem Fc {L:List Tk} (ho:∀ x∈L,jK (tx x)) (h9:L.length<=900) (hb:mw [] (L.map tx)=true):Pure K 48 [iB L] (.aK [rq (jZ (L.map tx) 0 [] []),.int .i64 0,.int .i64 0]):=by
 have hv:=yx L;have hcl:closed (rq (jZ (L.map tx) 0 [] []))=true:=by
  unfold rq;split
  . rfl
  . exact abc _
 refine Pure.OF (by simp[cD,CH]) (by simp[closed,cD,hcl]) λ R hR=>?_;refine V7 ?_;unfold LW;generalize wE:bU ⟨.e,0⟩=ar;refine X5 hv ho h9 λ aS e1=>?_;rw[bE,c8,al,decide_eq_true rfl];refine cY ?_;rw[hv.len,al];refine⟨λ m v0 v6 v7 cQ dq cw ad=>∃ (i:Nat) (out:List Int) (st:List Nat) (nU:List Bool),m=L.length-i/\i<=L.length/\v0=iB L/\cQ=iB L/\dq=.int .i64 L.length/\cw=.int .i64 (i:Nat)/\zW aS ad v6 v7 out (oy st)/\uz L i out st nU/\mw nU ((L.drop i).map tx)=true/\jZ ((L.drop i).map tx) i out st=jZ (L.map tx) 0 [] [],
  ⟨_,0,[],[],[],rfl,by omega,rfl,rfl,rfl,rfl,⟨.inl ⟨rfl,rfl⟩,.inl ⟨rfl,rfl⟩,cX.refl _⟩,⟨rfl,rfl,λ o ho=>(by cases ho),λ k hk=>by omega,bX _⟩,hb,rfl⟩,?_⟩
 rintro m v0 v6 v7 cQ dq cw bf ⟨i,out,st,nU,rfl,hi,rfl,rfl,rfl,rfl,P,I,oh,uj⟩;rw[bV,al];refine ic (λ aN=>?_) λ kV=>?_
 . have aN:i<L.length:=by omega
   obtain⟨x,hx⟩:∃ x,L[i]?=some x:=⟨L[i],by simp[aN]⟩;have AT:L.drop i=x::L.drop (i+1):=by
    rw[gM aN,(dp.1 hx).2]
   have jV:mS L i=x.s:=tQ hx;have e2:(tx x).2=x.s:=rfl;rw[AT,dH]at oh uj;rw[JL,e2]at oh;rw[jZ,e2]at uj;have sC:st.length<=900:=by have:=I.Zi; omega
   intro j hj;have tail:∀ (IJ v7':AV) (ad:St) (Lv:List Int) (kL:List Nat) (qk:List Bool),zW aS ad IJ v7' Lv (oy kL)->uz L (i+1) Lv kL qk->mw qk ((L.drop (i+1)).map tx)=true->jZ ((L.drop (i+1)).map tx) (i+1) Lv kL=jZ (L.map tx) 0 [] []->j (iB L) IJ v7' (iB L) (.int .i64 L.length) (.int .i64 (i:Nat)) ad:=by
    intro IJ v7' ad Lv kL qk P' I' eY CU;refine hj _ _ _ _ _ _ _ ?_;dsimp only;rw[dO];exact⟨bI (by omega) (by omega),L.length-(i+1),by omega,i+1,Lv,kL,qk,rfl,by omega,rfl,rfl,rfl,by simp,P',I',eY,CU⟩
   refine afY hv hx ?_;rw[cm];intro b9 AQ;have m9:(bf.new b9 (.box [AV.int .u8 0,AV.str [],AV.int .i64 0])).box b9=some [AV.int .u8 0,AV.str [],AV.int .i64 0]:=aD;have e9:cX bf ((bf.new b9 (.box [AV.int .u8 0,AV.str [],AV.int .i64 0])).set b9 (.box (jM x))):=(bg AQ).set AQ.1;have n9:∀ k,v6≠.ms b9 0 k 1 3:=λ k Ob=>by
    rcases P.o with ⟨_,h⟩|⟨b,h,hb,_⟩
    . rw[h]at Ob; cases Ob
    . rw[h]at Ob; injection Ob with Ob; exact AQ.bO hb Ob
   rw[cI m9];refine⟨⟨rfl,rfl,by simp[jM]⟩,?_⟩;rw[show ay [AV.int .u8 0,AV.str [],AV.int .i64 0] 0 (av (.agg (jM x)))=jM x from rfl];have m9:((bf.new b9 (.box [AV.int .u8 0,AV.str [],AV.int .i64 0])).set b9 (.box (jM x))).box b9=some (jM x):=aT;have P:=P.mono e9;generalize (bf.new b9 _).set b9 _=bR at *;refine ND λ bx wC=>?_;have mx:(bR.new bx (.box [.int .i64 (-1)])).box bx=some [.int .i64 (-1)]:=aD;have ex:=bg wC (x:=.box [AV.int .i64 (-1)]);have P:=P.mono ex;have m9:=ex.aY m9;generalize bR.new bx _=cP at *;have SH:out.length=i:=I.len;refine ab3 P mx (by omega) λ du IJ P ot=>?_;have m9:=ot b9 _ n9 m9;refine gR (ej m9 (show _=AV.str x.s::_ from rfl) ?_);intro j1 s9;have OO:mS L i=bK\/mS L i=gQ->mw (decide (mS L i=bK)::nU) ((L.drop (i+1)).map tx)=true->jZ ((L.drop (i+1)).map tx) (i+1) (out++[-1]) (i::st)=jZ (L.map tx) 0 [] [] ->
    j1 (iB L) IJ v7 (.int .i64 (i:Nat)) (.box b9 0) (iB L) (.int .i64 L.length) (.int .i64 (i:Nat)) (.str x.s) (.bool true) du:=by
    intro hop eY CU;refine s9 _ _ _ _ _ _ _ _ _ _ _ (dz (ND λ by_ AR=>?_));have my:(du.new by_ (.box [.int .i64 (i:Nat)])).box by_=some [.int .i64 ((i:Nat):Int)]:=aD;have P:=P.mono (bg AR (x:=.box [AV.int .i64 (i:Nat)]));generalize du.new by_ _=mh at *;refine ab4 P my (by rw[Lu]; omega) λ jk v7' P=>?_;rw[<- Ik]at P;exact tail _ _ _ _ _ _ P (I.push hop) eY CU
   have closing:∀ b:Bool,(b=true->x.s=bJ)->decide (x.s=bJ)=b->((vQ b nU).elim false λ kL=>mw kL ((L.drop (i+1)).map tx))=true->jZ ((L.drop (i+1)).map tx) (i+1) (((out++[-1]).set i (st.headD 0:Nat)).set (st.headD 0) (i:Nat)) st.tail=jZ (L.map tx) 0 [] [] ->
    ∀ B:AV->AV->AV->AV->AV->AV->St->Prop,(∀ w0 w6 w7 O8 Wo Wp ad,j w0 w6 w7 O8 Wo Wp ad->B w0 w6 w7 O8 Wo Wp ad) ->
    (cr (some false) v7).wp K du (λ lD U =>
      (aw .sub (BT.mk false false false none false) true lD (AV.int .i64 1)).wp K U (λ v40 U =>
      az K (aw .lss (BT.mk false false false none false) true v40 (AV.int .i64 0)) (λ fD =>
      ao K (aM fD false) (aC.val (iB L)) (λ lE =>
      ao K (aM fD false) (aC.val v7) (λ mg =>
      ao K (aM fD false) (aC.val v40) (λ v46 =>
      ao K (aM fD false) (aE (some (3,1)) none mg v46) (λ nB =>
      ao K (aM fD false) (ak (some (false,1)) nB U) (λ ri =>
      ao K (aM fD false) (aE (some (51,3)) none lE ri) (λ v49 =>
      ao K (aM fD false) (af (some 1) v49) (λ ji =>
      ao K (aM fD false) (ak (some (false,1)) ji U) (λ v51 =>
      ao K (aM fD false) (aw .eql (BT.mk false false false none false) true v51 (AV.str bK)) (λ mU =>
      ao K (aM fD false) (af (some 1) (.box b9 0)) (λ v53 =>
      ao K (aM fD false) (ak (some (false,1)) v53 U) (λ nC =>
      ao K (aM fD false) (aw .eql (BT.mk false false false none false) true nC (AV.str bJ)) (λ mJ =>
      ao K (aM fD false) (aw .neq (BT.mk true false false none false) false mU mJ) (λ oI =>
      az K (bN fD (AV.bool true) oI) (λ oJ =>
      ax oJ (
       aq R (AV.aK [AV.ag,.int .i64 (i:Nat),(AV.int .i64 4)]) U) (
       az K (aE (some (3,1)) none v7 v40) (λ qo =>
       az K (ak (some (false,1)) qo U) (λ pW =>
       az K (aE (some (3,1)) none v7 v40) (λ sV =>
       az K (ak (some (false,1)) sV U) (λ sh =>
       az K (aE (some (3,1)) none IJ (.int .i64 (i:Nat))) (λ BS =>
       (aI (some (false,1)) BS sh U).wp K U (λ _ ad=>df ((eE sV++[])++((eE qo++[])++[])) U ad /\
       az K (aE (some (3,1)) none IJ pW) (λ v72 =>
       (aI (some (false,1)) v72 (.int .i64 (i:Nat)) ad).wp K ad (λ _ U =>
       (eD false (some (3,1)) v7 none (some v40)).wp K U (λ v75 U =>
       B (iB L) IJ v75 (iB L) (.int .i64 L.length) (.int .i64 (i:Nat)) U) (aa R)) (aa R))) (aa R))))))))))))))))))))))) (aa R)) (aa R):=by
    intro b NX Sj eY CU B hB;obtain⟨qk,rfl,gz⟩:=Nv eY;cases st with
    | nil=>exact absurd I.map (by simp)
    | cons o kL =>
    obtain⟨I',ho,NW⟩:=I.pop λ hb=>jV.trans (NX hb);rw[Ik]at P;rcases P.p with ⟨h,_⟩|⟨b7,fV,rfl,m7,z7⟩
    . simp at h
    rcases P.o with ⟨h,_⟩|⟨b6,rfl,m6,ca,z6,_⟩
    . simp at h
    have aeM:b7≠b6:=λ e=>ca _ (by rw[e]);have hlen:(((oy kL++[(o:Int)]).length:Nat):Int)-1=((oy kL).length:Nat):=by simp
    have akE:(out++[-1]).length=i+1:=by simp[SH]
    obtain⟨y,hy⟩:∃ y,L[o]?=some y:=⟨L[o]'(by omega),by simp[show o<L.length by omega]⟩;rw[tQ hy]at NW;rw[P.aeW,al,FR,hlen];refine⟨bI (by omega) (by rw[Lu]; simp at sC; omega),ae9 (by omega) (yn rfl rfl (yn rfl rfl (yn rfl rfl (sx rfl ?_))))⟩;rw[Cr,fW];refine⟨⟨by omega,by simp; omega,rfl⟩,sx rfl (eZ m7 (Du _ _ _) (Zn rfl hv hy (sx rfl ?_)))⟩;rw[gZ,aJ];refine agW rfl m9 rfl (sx rfl ?_);rw[gZ,aJ,Sj,<- NW];refine sx rfl ?_;rw[Aw,aJ,bne_self_eq_false];refine ajp (cY ?_);rw[Cr,fW];refine⟨⟨by omega,by simp; omega,rfl⟩,eZ m7 (Du _ _ _) ?_⟩;rw[Cr,fW];refine⟨⟨by omega,by simp; omega,rfl⟩,eZ m7 (Du _ _ _) ?_⟩;rw[Cr,fW,db,Nat.mul_one];refine⟨⟨by omega,by omega,rfl⟩,?_⟩;rw[cI m6];refine⟨⟨rfl,rfl,by simp[SH]⟩,λ c hc=>?_,?_⟩
    . simp only[eE,gx,fT,cK,List.not_mem_nil,or_false,or_self]at hc;subst hc;rw[dW,if_neg aeM]
    rw[Cr,fW,db,Nat.mul_one];refine⟨⟨by omega,by omega,rfl⟩,?_⟩
    try rw[show 0+o*1=o by omega]
    rw[cI aT];refine⟨⟨rfl,rfl,by simp[ay,SH,av]; omega⟩,?_⟩;have P2:=ae8 P.ex m6 z6 aeM m7 z7 (i:=i) (o:=o) (by omega) (by omega);have sC:eD false (some (3,1)) (.ms b7 0 (oy kL++[(o:Int)]).length 1 3) none (some (.int .i64 ((oy kL).length:Nat)))=.cond ((0:Int)<=0/\(0:Int)<=((oy kL).length:Nat)/\(((oy kL).length:Nat):Int)<=(oy kL++[(o:Int)]).length/\((0:Int)<(oy kL++[(o:Int)]).length\/(0:Int)=0)/\1=1) (.val (.ms b7 (0+(0:Int).toNat*1) ((((oy kL).length:Nat):Int).toNat-(0:Int).toNat) 1 3)):=rfl;rw[sC,wp_cond,al];refine⟨⟨by omega,by omega,by simp; omega,.inr rfl,rfl⟩,hB _ _ _ _ _ _ _ ?_⟩;have en:(((oy kL).length:Nat):Int).toNat-(0:Int).toNat=(oy kL).length:=by omega
    rw[en];show j (iB L) (AV.ms b6 0 (out++[-1]).length 1 3) (AV.ms b7 0 (oy kL).length 1 3) (iB L) _ _ _;exact tail _ _ _ _ _ _ P2 I' gz CU
   by_cases c1:x.s=bK
   . rw[if_pos c1]at oh;rw[if_pos (.inl c1)]at uj;exact FQ c1 (dz (OO (.inl (jV.trans c1)) (by rw[jV,decide_eq_true c1]; exact oh) uj))
   rw[if_neg c1]at oh;refine FP c1 (cY ?_)
   by_cases c2:x.s=gQ
   . rw[if_pos c2]at oh;rw[if_pos (.inr c2)]at uj;refine FQ c2 ?_;exact OO (.inr (jV.trans c2)) (by rw[jV,decide_eq_false c1]; exact oh) uj
   rw[if_neg c2]at oh;rw[if_neg (by rintro (h|h); exact c1 h; exact c2 h)]at uj;refine FP c2 ?_;refine s9 _ _ _ _ _ _ _ _ _ _ _ (cY ?_);intro j2 pN
   by_cases c3:x.s=bJ
   . rw[if_pos c3]at oh;rw[if_pos (.inl c3)]at uj;refine FQ c3 ?_;exact dz (pN _ _ _ _ _ _ _ _ _ _ (dz (closing true (λ _=>c3) (decide_eq_true c3) oh uj (λ a b c d e f U=>j a b c d e f U) λ _ _ _ _ _ _ _ h=>h)))
   rw[if_neg c3]at oh;refine FP c3 (cY ?_)
   by_cases c4:x.s=jJ
   . rw[if_pos c4]at oh;rw[if_pos (.inr c4)]at uj;refine FQ c4 ?_;exact pN _ _ _ _ _ _ _ _ _ _ (dz (closing false (λ h=>by cases h) (decide_eq_false c3) oh uj (λ a b c d e f U=>j a b c d e f U) λ _ _ _ _ _ _ _ h=>h))
   rw[if_neg c4]at oh;rw[if_neg (by rintro (h|h); exact c3 h; exact c4 h)]at uj;refine FP c4 ?_;exact pN _ _ _ _ _ _ _ _ _ _ (cY (tail _ _ _ _ _ _ P I.none oh uj))
 . have hii:i=L.length:=by omega
   subst hii;rw[List.drop_length]at oh uj;have uj:out=jZ (L.map tx) 0 [] []:=uj;have gr:st=[]:=by
    have h1:nU=[]:=by simpa [mw] using oh
    have h2:=I.map;rw[h1]at h2;simpa using h2
   subst gr;rw[P.aeW,al,eM,al,decide_eq_false (by simp[oy])];refine cY (aq.mk (hR _ _ ?_));rw[<- uj];show AV.aK [resolve 4 bf v6,.int .i64 0,.int .i64 0]=_;rcases P.o with ⟨rfl,rfl⟩|⟨b,rfl,rW,_,_,ca⟩
   . rfl
   . have e:resolve 4 bf (.ms b 0 out.length 1 3)=.vec out.length .iE ((out.map (AV.int .i64)).map (resolve 3 bf)):=by
      simp only[resolve,rW,eG]
     rw[e,X8];show _=AV.aK [rq out,.int .i64 0,.int .i64 0];unfold rq;rw[if_neg ca]
end Go.Rip
namespace Go.Rip
open Go.Proofs Go.RowKit
theorem ae.af0 {C:de} {f:Nat} {args args':List AV} {U:St} {R:cV->St->Prop} (hw:∀ g vs,aH g args vs->aH g args' vs) (h:ae C f args' U R):ae C f args U R:=λ g w vs hs hG ha=>h g w vs hs hG (hw _ _ ha)
theorem aA.iE {g:Gh} {n:Nat} {c:mr} {l:List AV} {v:Value} (h:aA g (.vec n c l) v):aA g (.vec n .iE l) v:=by
 simp only[aA]at h ⊢;obtain⟨aL,off,c',vs,h1,h2,h3,h4,h5⟩:=h;exact⟨aL,off,c',vs,h1,h2,h3,trivial,h5⟩
end Go.Rip
namespace Go.Rip
open Go.Proofs Go.RowKit
section
variable {t:Tre} {n m:Nat}
end
theorem acq {a:Int} {n:Nat} (h:0<=a) (hn:0<n):∃ k:Nat,a.tmod n=(k:Int)/\k<n:=by
 obtain⟨b,rfl⟩:=Int.eq_ofNat_of_zero_le h;refine⟨b%n,?_,Nat.mod_lt _ hn⟩;rw[Int.tmod_eq_emod_of_nonneg h];omega
end Go.Rip
namespace Go.Rip
open Go.Proofs Go.RowKit
theorem Nu {U:St} {L:List Tk} {K':AV->St->Prop} {Kp:AV->St->Prop} (hl:L.length<=100000)
 (h:∀ y ad,cX U ad->(∀ g u,aA g y u->aA g (iB L) u)->K' y ad):(dB (some (51,3)) false AV.ag (iB L) U).wp K U K' Kp:=by
 refine Wq YE (YO L) (by omega) (λ h0=>?_) (λ _ h=>nomatch h) (λ h0 _ b hb=>?_)
 . refine h _ _ (cX.refl U) λ g u hr=>?_;have:L=[]:=rL.1 h0;subst this; exact hr
 . refine h _ _ (bg hb) λ g u hr=>?_;have:L≠[]:=λ e=>h0 (by rw[e]; rfl);unfold iB;rw[if_neg this];exact hr.iE
theorem DI (os:List Int):eW (rq os) os.length (os.map (AV.int .i64)):=by
 unfold rq;split
 . rename_i h; subst h; exact .inl ⟨rfl,rfl,rfl⟩
 . exact .inr ⟨_,rfl⟩
section
variable {U:St} {os:List Int} {L:List Tk} {i e:Nat} {z:Int} {x:Tk} {gv:AV} {k:AV->Prop} {K' Kp:AV->St->Prop}
theorem aj9 (hx:os[i]?=some z) (h:K' (.int .i64 z) U):(aE (some (e,1)) none (rq os) (.int .i64 (i:Nat))).wp K U (λ p τ=>(ak (some (false,1)) p τ).wp K τ K' Kp) Kp:=by
 obtain⟨aN,he⟩:=dp.1 hx;rcases DI os with ⟨h1,_,_⟩|⟨c,h1⟩
 . omega
 . have hd:(os.map (AV.int .i64)).drop i=.int .i64 z::(os.map (AV.int .i64)).drop (i+1):=by
    rw[gM (by simpa using aN)]; simp[he]
   rw[h1,zN,fW,Nat.mul_one,hd,oK,bC];exact⟨by omega,h⟩
theorem afa (hx:os[i]?=some z) (h:k (.int .i64 z)):az K (aE (some (e,1)) none (rq os) (.int .i64 (i:Nat))) λ p=>az K (ak (some (false,1)) p U) k:=by
 obtain⟨aN,he⟩:=dp.1 hx;rcases DI os with ⟨h1,_,_⟩|⟨c,h1⟩
 . omega
 . have hd:(os.map (AV.int .i64)).drop i=.int .i64 z::(os.map (AV.int .i64)).drop (i+1):=by
    rw[gM (by simpa using aN)]; simp[he]
   rw[h1,LA,fW,Nat.mul_one,hd,qf,jE];exact⟨by omega,h⟩
theorem ait (hg:gv=.bool true) (hx:os[i]?=some z) (h:k (.int .i64 z)):ao K gv (aE (some (e,1)) none (rq os) (.int .i64 (i:Nat))) λ p=>ao K gv (ak (some (false,1)) p U) k:=by
 subst hg;simp only[aP,cB];exact afa hx h
theorem aac (hx:L[i]?=some x) (h:k (.int .i64 (x.at_:Nat))):az K (aE (some (51,3)) none (iB L) (.int .i64 (i:Nat))) λ p=>az K (af (some 2) p) λ q=>az K (ak (some (false,1)) q U) k:=by
 have aN:=(dp.1 hx).1;obtain⟨r,hr⟩:=D0 hx;rcases yx L with ⟨h1,_,_⟩|⟨c,h1⟩
 . omega
 . rw[h1,LA,fW,hr];refine⟨by omega,?_⟩;simp only[dC,aJ];rw[qf];exact h
end
theorem abd {a:Int} {U:St} {K' Kp:AV->St->Prop} (h:wh a) (hk:K' (.int .i64 a) U):(B7 (some .i64) true false false (.int .u8 a)).wp K U K' Kp:=⟨h,hk⟩
theorem XI:ix []=.ok []:=rfl
theorem IQ (s:aG) (w:Int) (hw:(Lit.int .u8 w).wf=true):Pure K 13 [.str s,.int .u8 w] (.bool true):=by
 have hw0:0<=w/\w<=255:=by
  simp only[Lit.wf,cb,eg]at hw;exact hw
 refine Pure.of rfl rfl (λ U=>rfl) λ R hR=>?_;refine Ya ?_;unfold aaf;rw[ou,al,eM,al];refine ic (λ h=>qt.go (aq.mk (hR _))) λ h=>?_;have hs:s.length<=3000:=by omega
 refine (Fe s hs).go ?_;obtain⟨l,p,e,hp⟩:∃ l p e,kZ s=(l,p,e):=⟨_,_,_,rfl⟩;rw[hp];simp only[Br,bp,List.drop,bC];rw[cm];intro b5 lx;have m5:((bU ⟨.e,0⟩).new b5 (.box [AV.ag])).box b5=some [.ag]:=aD;generalize (bU _).new b5 _=ar at *;rw[cI m5];refine⟨⟨rfl,rfl,by simp⟩,?_⟩;have m5:(ar.set b5 (.box (ay [AV.ag] 0 (av (.agg [fg l]))))).box b5=some [fg l]:=by rw[aT]; rfl
 generalize ar.set b5 _=aS at *;refine Mw ?_
 by_cases he:e=0
 rotate_left
 . simp only[he,eS,fx];exact dz (qt.go (aq.mk (hR _)))
 subst he;simp only[dG,dm];refine cY ?_;obtain⟨hc,ag5⟩:=IZ hp;have aeV:∀ {l:List Nd},fR l=0->l.length<=900:=λ {l} hc=>Nat.le_of_not_lt λ h=>by unfold fR at hc; rw[if_pos h]at hc; cases hc
 have hl:=aeV hc;have jV:∀ x∈l,x.text.length<=3000:=λ x hx=>by have:=Fs hc x hx; omega
 have cv:=Ck l;refine lX m5 ((Hf cv (by omega)).go ((QN cv (by omega) jV).go ?_));simp only[bp,List.drop,bC];rcases ag5 with ⟨ht,_⟩|⟨u,_,ht,_,_,_⟩
 ·
  rw[ht];have tp:=ua [] (by simp);rw[XI]at tp;refine tp.go ?_;simp only[sT,bp,List.drop,bC];refine Nu (L:=[]) (by simp) λ y bf e2 hy=>?_;refine ae.af0 (args':=[iB []]) (λ g vs h=>?_) ((Fc (L:=[]) (by simp) (by simp) rfl).go ?_)
  . simp only[aH]at h ⊢;obtain⟨u1,us1,e1,r1,r2⟩:=h;exact⟨u1,us1,e1,hy g u1 r1,r2⟩
  simp only[bp,List.drop,bC];rw[c8,al,decide_eq_false (show ¬ (([],5):aG×Int).2=0 by decide)];refine qG rfl (qG rfl (xI (qG rfl (qG rfl (xI (qG rfl (qG rfl (qG rfl (qG rfl (qG rfl (xI (dz ?_))))))))))));exact afW rfl (sx rfl (oz qt (xI (aq.mk (hR _)))))
 . obtain⟨L,EF,akG,oh,hLk,Ho,hbr⟩:=F6 hp ht;obtain⟨nj,Jf⟩:=QF oh;rw[ht];have tp:=ua u (by omega);rw[EF]at tp;refine tp.go ?_;simp only[sT,bp,List.drop,bC];have hto:∀ x∈L,jK (tx x):=λ x hx=>(hLk x hx).1;refine Nu (L:=L) (by omega) λ y bf e2 hy=>?_;have m5:=e2.aY m5;refine ae.af0 (args':=[iB L]) (λ g vs h=>?_) ((Fc hto Ho oh).go ?_)
   . simp only[aH]at h ⊢;obtain⟨u1,us1,e1,r1,r2⟩:=h;exact⟨u1,us1,e1,hy g u1 r1,r2⟩
   simp only[bp,List.drop,bC];generalize ZM:jZ (L.map tx) 0 [] []=os at *;have hvt:=yx L;have hvo:=DI os;rw[c8,al,decide_eq_true (show ((u,0):aG×Int).2=0 from rfl)];refine yn rfl rfl (sx rfl (LC rfl (Mx (yn rfl rfl (sx rfl (LC rfl (Mx (yn rfl rfl (sx rfl (LB hvo (yn rfl rfl (sx rfl (LB hvt (sx rfl (LC (by omega) (Mx (cY ?_)))))))))))))))));refine⟨λ m w1 w5 w8 wZ BU O8 Wo ad=>∃ (i:Nat) (op:List Nat),m=L.length-i/\i<=L.length/\w1=.int .u8 w/\w5=.box b5 0/\w8=.str u/\wZ=iB L/\BU=rq os/\Wo=.int .i64 (i:Nat)/\iV bf ad O8 3 1 op.length (iX op)/\op.length<=i/\(∀ k∈op,k<L.length/\mS L k=bK/\∃ q:Nat,os[k]?=some (q:Int)/\k<q/\q<L.length),⟨_,0,[],rfl,by omega,rfl,rfl,rfl,rfl,rfl,rfl,iV.nil (cX.refl _),by simp,by simp⟩,?_⟩;rintro m w1 w5 w8 wZ BU O8 Wo bR ⟨i,op,rfl,hi,rfl,rfl,rfl,rfl,rfl,rfl,G,hop,ck⟩;rw[hvo.len,al,bV,al];refine ic (λ aN=>?_) λ kV=>?_
   . have aN:i<L.length:=by omega
     obtain⟨x,hx⟩:∃ x,L[i]?=some x:=⟨L[i],by simp[aN]⟩;obtain⟨z,hz⟩:∃ z,os[i]?=some z:=⟨os[i]'(by omega),by simp[show i<os.length by omega]⟩;intro j hj;have skip:j (.int .u8 w) (.box b5 0) (.str u) (iB L) (rq os) O8 (.int .i64 (i:Nat)) bR:=by
      refine hj _ _ _ _ _ _ _ _ ?_;dsimp only;rw[dO];exact⟨bI (by omega) (by omega),L.length-(i+1),by omega,i+1,op,rfl,by omega,rfl,rfl,rfl,rfl,rfl,by simp,G,by omega,ck⟩
     refine aj9 hz ?_;rw[eM,al]
     by_cases uN:(i:Int)<z
     rotate_left
     . rw[decide_eq_false uN];exact qG rfl (qG rfl (qG rfl (qG rfl (qG rfl (qG rfl (qG rfl (Mx (qG rfl (qG rfl (qG rfl (qG rfl (qG rfl (qG rfl (Mx (cY skip)))))))))))))))
     rw[decide_eq_true uN];obtain⟨q,hzq,hqL⟩:∃ q:Nat,z=(q:Int)/\q<L.length:=by
      rcases Jf i aN with h1|⟨q,h1,h2,_⟩
      . rw[hz]at h1;injection h1 with h1
        omega
      . rw[hz]at h1;injection h1 with h1
        exact⟨q,h1,h2⟩
     refine yn rfl rfl (yn rfl rfl (ait rfl hz (yn rfl rfl (sx rfl (LB hvt (sx rfl ?_))))));rw[bV,aJ,decide_eq_true (by omega)];refine xI (yn rfl rfl (yn rfl rfl (Zn rfl hvt hx (sx rfl ?_))));rw[gZ,aJ]
     by_cases h28:x.s=bK
     rotate_left
     . rw[decide_eq_false h28];exact xI (cY skip)
     rw[decide_eq_true h28];refine xI (dz (Jw rfl rfl ?_));refine FN G (m:=1) (l2:=[.int .i64 (i:Nat)]) rfl rfl (by omega) (by omega) λ cP v' g2 k2=>?_;refine hj _ _ _ _ _ _ _ _ ?_;dsimp only;rw[dO];refine⟨bI (by omega) (by omega),L.length-(i+1),by omega,i+1,op++[i],rfl,by omega,rfl,rfl,rfl,rfl,rfl,by simp,?_,by simp; omega,λ k hk=>?_⟩
     . simpa [iX] using g2
     . rw[fT,kn]at hk;rcases hk with hk|rfl
       . exact ck k hk
       . exact⟨aN,(tQ hx).trans h28,q,by rw[hz,hzq],by omega,hqL⟩
   . have m5:=G.ex.aY m5;have ZV:=G.sl;rw[ZV.len,al,bA,al];refine ic (λ h0=>qt.go (aq.mk (hR _))) λ h0=>?_;have mD:0<op.length:=by omega
     obtain⟨c,hcw,vF⟩:=acq (a:=w) (n:=op.length) hw0.1 mD;obtain⟨k,hk⟩:∃ k,op[c]?=some k:=⟨op[c],by simp[vF]⟩;obtain⟨hkL,P0,q,N3,aeI,hqL⟩:=ck k (gw hk);obtain⟨tk,p7⟩:∃ t,L[k]?=some t:=⟨L[k],by simp[hkL]⟩;obtain⟨tq,htq⟩:∃ t,L[q]?=some t:=⟨L[q],by simp[hqL]⟩;have aiY:tq.s=bJ:=by
      rcases Jf k hkL with h1|⟨q',h1,_,h3⟩
      . rw[N3]at h1; injection h1 with h1; omega
      . rw[N3]at h1;injection h1 with h1
        obtain rfl:q=q':=by omega
        rw[<- tQ htq]; exact h3 aeI P0
     have aha:tk.s=bK:=by rw[<- tQ p7]; exact P0
     obtain⟨Ez,hbu,aiG⟩:=hbr k q tk tq p7 htq aeI aha aiY;refine abd (bI (by omega) (by omega)) ?_;rw[al,ahv,hcw];refine⟨by omega,lz ZV hk ?_⟩;refine aac p7 (afa N3 (aac htq ?_));have sl1:eD true none (.str u) none (some (.int .i64 (tk.at_:Nat)))=.cond ((0:Int)<=0/\(0:Int)<=(tk.at_:Nat)/\((tk.at_:Nat):Int)<=u.length) (.val (.str ((u.take ((tk.at_:Nat):Int).toNat).drop (0:Int).toNat))):=rfl;rw[sl1,jN,aJ,fW,show (0:Int).toNat=0 from rfl,eG];refine⟨by omega,?_⟩;rw[Jq];refine⟨by simp[u7]; omega,?_⟩;rw[Fk];refine⟨bI (by omega) (by omega),?_⟩;have sl2:eD true none (.str u) (some (.int .i64 ((tk.at_:Nat)+1))) (some (.int .i64 (tq.at_:Nat)))=.cond ((0:Int)<=(tk.at_:Nat)+1/\((tk.at_:Nat):Int)+1<=(tq.at_:Nat)/\((tq.at_:Nat):Int)<=u.length) (.val (.str ((u.take ((tq.at_:Nat):Int).toNat).drop (((tk.at_:Nat):Int)+1).toNat))):=rfl;rw[sl2,jN,aJ,fW,show (((tk.at_:Nat):Int)+1).toNat=tk.at_+1 by omega];refine⟨by omega,?_⟩;rw[Jq];refine⟨by simp[u7]; omega,?_⟩;rw[Jq];refine⟨by simp[u7]; omega,?_⟩;rw[Fk];refine⟨bI (by omega) (by omega),?_⟩;have sl3:eD true none (.str u) (some (.int .i64 ((tq.at_:Nat)+1))) none=.cond ((0:Int)<=(tq.at_:Nat)+1/\((tq.at_:Nat):Int)+1<=u.length/\((u.length:Nat):Int)<=u.length) (.val (.str ((u.take ((u.length:Nat):Int).toNat).drop (((tq.at_:Nat):Int)+1).toNat))):=rfl;rw[sl3,jN,aJ,fW,tJ,show (((tq.at_:Nat):Int)+1).toNat=tq.at_+1 by omega];refine⟨by omega,?_⟩;rw[Jq];refine⟨by simp[u7]; omega,?_⟩;have uY:((u.take tk.at_++u7)++(u.take tq.at_).drop (tk.at_+1))++u7++u.drop (tq.at_+1)=u.take tk.at_++32::((u.drop (tk.at_+1)).take (tq.at_-(tk.at_+1))++32::u.drop (tq.at_+1)):=by
      rw[List.drop_take]; simp[u7]
     rw[uY];generalize pR:u.take tk.at_++32::((u.drop (tk.at_+1)).take (tq.at_-(tk.at_+1))++32::u.drop (tq.at_+1))=u' at *;have ai4:u'.length<=3000:=by
      rw[<- pR,<- OV u Ez hbu]; simp; omega
     refine oz (Fe u' ai4) ?_;obtain⟨v,p',e',hv⟩:∃ l p e,kZ u'=(l,p,e):=⟨_,_,_,rfl⟩;rw[hv];simp only[Br,bp,List.drop,jE];rw[cm];intro G4 aeq;have m21:(bR.new G4 (.box [AV.ag])).box G4=some [.ag]:=aD;have n5:=aeq.bO m5;have m5:=(bg aeq (x:=.box [AV.ag])).aY m5;generalize bR.new G4 (.box [AV.ag])=cP at *;refine⟨λ b hb=>(by cases hb),?_⟩;rw[cI m21];refine⟨⟨rfl,rfl,by simp⟩,λ b hb=>(by cases hb),?_⟩;have m5:(cP.set G4 (.box (ay [AV.ag] 0 (av (.agg [fg v]))))).box b5=some [fg l]:=by rw[aO n5]; exact m5
     have m21:(cP.set G4 (.box (ay [AV.ag] 0 (av (.agg [fg v]))))).box G4=some [fg v]:=by rw[aT]; rfl
     generalize cP.set G4 _=du at *;refine Mw ?_
     by_cases mB:e'=0
     rotate_left
     . simp only[mB,eS,fx];exact dz (qt.go (aq.mk (hR _)))
     subst mB;simp only[dG,dm];refine cY ?_;obtain⟨Sq,aiS⟩:=aiG v p' hv;have jr:=aeV Sq;have ai8:∀ x∈v,x.text.length<=3000:=λ x hx=>by have:=Fs Sq x hx; omega
     have b1:lq l=(eU l,0):=by unfold lq; rw[if_neg (by simp[hc])]
     have b2:lq v=(eU v,0):=by unfold lq; rw[if_neg (by simp[Sq])]
     refine lX m5 ((Bb cv (by omega) jV).go ?_);rw[b1];simp only[bp,List.drop,bC];rw[cm];intro G5 aer;have m24:(du.new G5 (.box [AV.ag])).box G5=some [.ag]:=aD;have n21:=aer.bO m21;have m21:=(bg aer (x:=.box [AV.ag])).aY m21;generalize du.new G5 (.box [AV.ag])=mh at *;rw[cI m24];refine⟨⟨rfl,rfl,by simp⟩,?_⟩;have m21:(mh.set G5 (.box (ay [AV.ag] 0 (av (.agg [fg (eU l)]))))).box G4=some [fg v]:=by rw[aO n21]; exact m21
     have m24:(mh.set G5 (.box (ay [AV.ag] 0 (av (.agg [fg (eU l)]))))).box G5=some [fg (eU l)]:=by rw[aT]; rfl
     generalize mh.set G5 _=jk at *;refine lX m21 ((Bb (Ck v) (by omega) ai8).go ?_);rw[b2];simp only[bp,List.drop,bC];rw[cm];intro JK aes;have m26:(jk.new JK (.box [AV.ag])).box JK=some [.ag]:=aD;have Ai:=aes.bO m24;have m24:=(bg aes (x:=.box [AV.ag])).aY m24;generalize jk.new JK (.box [AV.ag])=tf at *;rw[cI m26];refine⟨⟨rfl,rfl,by simp⟩,?_⟩;have m24:(tf.set JK (.box (ay [AV.ag] 0 (av (.agg [fg (eU v)]))))).box G5=some [fg (eU l)]:=by rw[aO Ai]; exact m24
     have m26:(tf.set JK (.box (ay [AV.ag] 0 (av (.agg [fg (eU v)]))))).box JK=some [fg (eU v)]:=by rw[aT]; rfl
     generalize tf.set JK _=tg at *;have wB:(eU l).length<=1000000:=by simp[eU]; omega
     have hbv:(eU v).length<=1000000:=by simp[eU]; omega
     have Jh:=TS (eU l) (eU v) wB hbv;rw[decide_eq_false (λ h=>aiS h.symm)]at Jh;refine yn rfl rfl (xI (sx rfl ?_));rw[zA m24];refine⟨by simp,sx rfl ?_⟩;rw[zA m26];refine⟨by simp,sx rfl (oz Jh (sx rfl (ajo (xI (sx rfl (oz qt (xI (aq.mk (hR _)))))))))⟩
end Go.Rip
