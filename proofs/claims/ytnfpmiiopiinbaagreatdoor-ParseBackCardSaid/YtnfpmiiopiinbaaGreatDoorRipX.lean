/- Lemmas for the proof: no conditions. -/
import Derived.Test.YtnfpmiiopiinbaaGreatDoorRipZz
import Derived.Test.YtnfpmiiopiinbaaGreatDoorRipK
import Derived.Test.YtnfpmiiopiinbaaGreatDoorRipI
import Derived.Test.YtnfpmiiopiinbaaGreatDoorRipS
import Derived.Test.YtnfpmiiopiinbaaGreatDoorRipYb
import Derived.Test.YtnfpmiiopiinbaaGreatDoorRipAw
set_option linter.unusedVariables false
set_option linter.unusedSimpArgs false
set_option linter.loopingSimpArgs false
namespace Go.Rip
theorem LG {p:Int->Bool}:∀ {l:List Int},(∀ x ∈ l,p x=true)->l.takeWhile p=l
 | [],_=>rfl
 | a::l,h=>by rw [oN,if_pos (h a (by simp)),LG fun x hx=>h x (by simp [hx])]
theorem se {s:lh} {ss:List lh} {la rest:List Int} (h:∀ k ∈ la,s.c.is k=true) (h1:s.least <= la.length) (h2:la.length <= s.nV) (h3:rest.length=(ss.map (·.least)).sum):dQ (la++rest) (s::ss)=dQ rest ss:=by
 have htw:la.takeWhile s.c.is=la:=LG h
 have afl:min ((la++rest).length - (ss.map (·.least)).sum) s.nV=la.length:=by
  rw [df]; omega
 rw [dQ]
 simp only [afl,List.take_left,htw,List.drop_left]
 rw [if_neg (by omega)]
theorem sf {c:iK} {lo hi:Nat} {ks:List Int} (h:∀ k ∈ ks,c.is k=true) (h1:lo <= ks.length) (h2:ks.length <= hi):dQ ks [⟨c,lo,hi⟩]=true:=by
 have:=se (s:=⟨c,lo,hi⟩) (ss:=[]) (rest:=[]) h h1 h2 rfl
 rw [gy] at this
 rw [this]; rfl
theorem sH {c:iK} {k:Int} (h:c.is k=true):dQ [k] [⟨c,1,1⟩]=true:=sf (by simpa using h) (by simp) (by simp)
def pK (c:Int->Bool) (ns:List Nd):Prop:=∃ t:Tre,ns=t.flat/\t.ok=true/\c t.kind=true
def re (c:Int->Bool) (m:Nat) (ns:List Nd):Prop:=∃ ts:List Tre,ns=Tre.bG ts/\Tre.sW ts=true/\(∀ t ∈ ts,c t.kind=true)/\ts.length=m
theorem re.nil {c:Int->Bool}:re c 0 []:=⟨[],by simp,by simp,by simp,rfl⟩
theorem pK.n {c:Int->Bool} {ns:List Nd} (h:pK c ns):re c 1 ns:=by
 obtain ⟨t,h1,h2,h3⟩:=h
 exact ⟨[t],by simp [h1],by simp [h2],by simpa using h3,rfl⟩
theorem re.snoc {c:Int->Bool} {m:Nat} {ns ns':List Nd} (h:re c m ns) (k:pK c ns'):re c (m+1) (ns++ns'):=by
 obtain ⟨t,h1,h2,h3⟩:=k
 obtain ⟨ts,k1,k2,k3,k4⟩:=h
 refine ⟨ts++[t],by simp [Tre.gM,h1,k1],by simp [Tre.rD,h2,k2],fun x hx=>?_,by simp [k4]⟩
 rw [fS,jz] at hx
 rcases hx with hx | rfl
 . exact k3 x hx
 . exact h3
theorem pK.low {c c':Int->Bool} {ns:List Nd} (h:pK c ns) (k:∀ x,c x=true->c' x=true):pK c' ns:=by
 obtain ⟨t,h1,h2,h3⟩:=h
 exact ⟨t,h1,h2,k _ h3⟩
theorem re.le {c:Int->Bool} {m:Nat} {ns:List Nd} (h:re c m ns):m <= ns.length:=by
 obtain ⟨ts,k1,k2,k3,k4⟩:=h
 rw [k1,<- k4]; exact Tre.nF ts
section
variable {c:Int->Bool} {k:Int} {tx:aK} {n m a:Int} {f:gd} {ts:List Tre} {ns:List Nd}
theorem nR (ts:List Tre) (hns:ns=Tre.bG ts) (h3:Tre.sW ts=true) (hf:bC k=some f) (h1:ee ⟨k,tx,n,m,a,0⟩ f=true) (h2:dQ (ts.map Tre.kind) f.kids=true) (hc:c k=true):pK c (node k tx n m a ns):=by
 refine ⟨.mk k tx n m a ts,?_,?_,hc⟩
 . rw [Tre.fp,hns]; rfl
 . rw [Tre.ok]; simp only [hf,h1,h2,h3,Bool.and_self]
theorem jK (hf:bC k=some f) (h1:ee ⟨k,tx,n,m,a,0⟩ f=true) (h2:dQ [] f.kids=true) (hc:c k=true):pK c (node k tx n m a []) :=
 nR [] (by simp) (by simp) hf h1 h2 hc
theorem xH {c1:iK} {a1:List Nd} (H1:pK c1.is a1) (hf:bC k=some f) (h1:ee ⟨k,tx,n,m,a,0⟩ f=true) (h2:∀ k1,c1.is k1=true->dQ [k1] f.kids=true) (hc:c k=true):pK c (node k tx n m a a1):=by
 obtain ⟨t1,e1,o1,k1⟩:=H1
 exact nR [t1] (by simp [e1]) (by simp [o1]) hf h1 (h2 _ k1) hc
theorem GF {c1 c2:iK} {a1 a2:List Nd} (H1:pK c1.is a1) (H2:pK c2.is a2) (hf:bC k=some f) (h1:ee ⟨k,tx,n,m,a,0⟩ f=true) (h2:∀ k1 k2,c1.is k1=true->c2.is k2=true->dQ [k1,k2] f.kids=true) (hc:c k=true):pK c (node k tx n m a (a1++a2)):=by
 obtain ⟨t1,e1,o1,k1⟩:=H1
 obtain ⟨t2,e2,o2,k2⟩:=H2
 exact nR [t1,t2] (by simp [e1,e2]) (by simp [o1,o2]) hf h1 (h2 _ _ k1 k2) hc
theorem Wt {c1 c2 c3:iK} {a1 a2 a3:List Nd} (H1:pK c1.is a1) (H2:pK c2.is a2) (H3:pK c3.is a3) (hf:bC k=some f) (h1:ee ⟨k,tx,n,m,a,0⟩ f=true) (h2:∀ k1 k2 k3,c1.is k1=true->c2.is k2=true->c3.is k3=true->dQ [k1,k2,k3] f.kids=true) (hc:c k=true):pK c (node k tx n m a (a1++a2++a3)):=by
 obtain ⟨t1,e1,o1,k1⟩:=H1
 obtain ⟨t2,e2,o2,k2⟩:=H2
 obtain ⟨t3,e3,o3,k3⟩:=H3
 exact nR [t1,t2,t3] (by simp [e1,e2,e3]) (by simp [o1,o2,o3]) hf h1 (h2 _ _ _ k1 k2 k3) hc
end
theorem CJ (k1 k2:Int) (h1:iK.term.is k1=true) (h2:iK.term.is k2=true):dQ [k1,k2] [⟨.term,2,2⟩]=true:=sf (by simp [h1,h2]) (by simp) (by simp)
theorem aaH (k1 k2 k3:Int) (h1:iK.term.is k1=true) (h2:iK.term.is k2=true) (h3:iK.term.is k3=true):dQ [k1,k2,k3] [⟨.term,3,3⟩]=true:=sf (by simp [h1,h2,h3]) (by simp) (by simp)
section
variable {L:List Tk} {E:Nat}
theorem dq {w:aK} {i j:Nat} {u:Unit} (h:bL L w i=.ok u j):j=i+1/\i < L.length:=by
 have:=cZ h
 unfold bL at h
 split at h
 . rename_i hw
   obtain ⟨t,ht,_⟩:=zB hw
   exact ⟨this,(dx.1 ht).1⟩
 . cases h
theorem sj {w:aK} {i:Nat} (h:bj L i w=true):i < L.length:=by
 obtain ⟨t,ht,_⟩:=zB h
 exact (dx.1 ht).1
theorem nq (hL:∀ t ∈ L,mx t) {i j:Nat} {x:aK} (h:gK L i=.ok x j):j=i+1/\i < L.length/\kI x=true/\x ≠ []:=by
 have:=kH h
 unfold gK at h
 split at h
 . rename_i t ht
   split at h
   . rename_i hk
     obtain ⟨rfl,rfl⟩:=PR.bF h
     have hm:=hL t (gh ht)
     refine ⟨this,(dx.1 ht).1,?_,hm.1⟩
     unfold kI
     rw [hm.2,hk]; simp
   . cases h
 . cases h
theorem so (hL:∀ t ∈ L,mx t) {i j:Nat} {x:Int} (h:jm L i=.ok x j):j=i+1/\i < L.length/\dH x=true:=by
 have:=pe h
 unfold jm at h
 split at h
 . rename_i t ht
   split at h
   . rename_i hk
     obtain ⟨rfl,rfl⟩:=PR.bF h
     have hm:=hL t (gh ht)
     refine ⟨this,(dx.1 ht).1,?_⟩
     have:=zK hm.1 (Lo hm hk)
     simp [dH,this.2.2.2]
   . cases h
 . cases h
theorem rm {k a z:Int} {l:List lh}:ee ⟨k,[],0,0,a,z⟩ ⟨false,false,false,l⟩=true:=by simp [ee,dH]
theorem vH {k a z:Int} {l:List lh} {x:aK} (hx:kI x=true) (h0:x ≠ []):ee ⟨k,x,0,0,a,z⟩ ⟨true,false,false,l⟩=true:=by simp [ee,dH,hx,h0]
theorem D1 {k a z n:Int} {l:List lh} (hn:dH n=true):ee ⟨k,[],n,0,a,z⟩ ⟨false,true,false,l⟩=true:=by
 have:dH 0=true:=by simp [dH]
 simp [ee,hn,this]
theorem adn {k a z n:Int} {l:List lh} {x:aK} (hx:kI x=true) (h0:x ≠ []) (hn:dH n=true):ee ⟨k,x,n,0,a,z⟩ ⟨true,true,false,l⟩=true:=by
 have:dH 0=true:=by simp [dH]
 simp [ee,hn,this,hx,h0]
theorem aaJ {k a z n m:Int} {l:List lh} {x:aK} (hx:kI x=true) (h0:x ≠ []) (hn:dH n=true) (hm:dH m=true):ee ⟨k,x,n,m,a,z⟩ ⟨true,true,true,l⟩=true:=by
 simp [ee,hn,hm,hx,h0]
def G1 (L:List Tk) (c:Int->Bool) (i:Nat) (ns:List Nd) (j:Nat):Prop:=pK c ns/\i < j/\j <= L.length
theorem Ao (hL:∀ t ∈ L,mx t) {i j:Nat} {ns:List Nd} (h:fX L E i=.ok ns j):G1 L oD i ns j:=by
 unfold fX at h
 split at h
 . rename_i hw
   have:=sj hw
   obtain ⟨rfl,rfl⟩:=PR.bF h
   exact ⟨jK rfl (D1 rfl) rfl rfl,by omega,by omega⟩
 . split at h
   . rename_i hw
     have:=sj hw
     obtain ⟨rfl,rfl⟩:=PR.bF h
     exact ⟨jK rfl (D1 rfl) rfl rfl,by omega,by omega⟩
   . split at h
     . obtain ⟨_,_,h1,h⟩:=PR.av h
       have:=so hL h1
       obtain ⟨rfl,rfl⟩:=PR.bF h
       exact ⟨jK rfl (D1 this.2.2) rfl rfl,by omega,by omega⟩
     . obtain ⟨_,_,h1,h⟩:=PR.av h
       obtain ⟨_,_,h2,h⟩:=PR.av h
       have:=dq h1; have:=so hL h2
       obtain ⟨rfl,rfl⟩:=PR.bF h
       exact ⟨jK rfl (D1 this.2.2) rfl rfl,by omega,by omega⟩
theorem Kw (hL:∀ t ∈ L,mx t) {i j:Nat} {ns:List Nd} (h:lX L E i=.ok ns j):G1 L (iK.kind 37).is i ns j:=by
 unfold lX at h
 obtain ⟨_,_,h1,h⟩:=PR.av h
 have:=nq hL h1
 obtain ⟨rfl,rfl⟩:=PR.bF h
 exact ⟨jK rfl (vH this.2.2.1 this.2.2.2) rfl (by simp [iK.is]),by omega,by omega⟩
theorem Lj {c:Int->Bool} {one:Nat->PR (List Nd)} (h1:∀ {i j ns},one i=.ok ns j->G1 L c i ns j):∀ (f:Nat) (acc:List Nd) (m i:Nat) {j:Nat} {ns:List Nd},mN L one f acc i=.ok ns j->re c m acc->1 <= m->m <= i->i <= L.length->∃ m,re c m ns/\1 <= m/\m <= j/\i <= j/\j <= L.length
 | 0,_,_,_,_,_,h,_,_,_,_=>by cases h
 | f+1,acc,m,i,j,ns,h,ha,hm,HT,hi=>by
   unfold mN at h
   split at h
   . obtain ⟨_,_,h2,h⟩:=PR.av h
     obtain ⟨k1,k2,k3⟩:=h1 h2
     obtain ⟨m',q1,q2,q3,q4,q5⟩:=Lj h1 f _ (m+1) _ h (ha.snoc k1) (by omega) (by omega) k3
     exact ⟨m',q1,q2,q3,by omega,q5⟩
   . obtain ⟨rfl,rfl⟩:=PR.bF h
     exact ⟨m,ha,hm,HT,cX _,hi⟩
theorem Ec {c:Int->Bool} {one:Nat->PR (List Nd)} (h1:∀ {i j ns},one i=.ok ns j->G1 L c i ns j) {f i j:Nat} {ns:List Nd} (h:jT L one f i=.ok ns j):∃ m,re c m ns/\1 <= m/\m <= j/\i < j/\j <= L.length:=by
 unfold jT at h
 obtain ⟨_,_,h2,h⟩:=PR.av h
 obtain ⟨k1,k2,k3⟩:=h1 h2
 obtain ⟨m',q1,q2,q3,q4,q5⟩:=Lj h1 f _ 1 _ h k1.n (by omega) (by omega) k3
 exact ⟨m',q1,q2,q3,by omega,q5⟩
theorem qR {c:Int->Bool} {ts:List Tre} (h:∀ t ∈ ts,c t.kind=true):∀ k ∈ ts.map Tre.kind,c k=true:=fun k hk=>by
 obtain ⟨t,ht,rfl⟩:=List.mem_map.1 hk
 exact h t ht
theorem Lh (hL:∀ t ∈ L,mx t) (hn:L.length <= 900) {f i j:Nat} {ns:List Nd} (h:jD L E f i=.ok ns j):G1 L pC i ns j:=by
 unfold jD at h
 split at h
 . obtain ⟨_,_,h1,h⟩:=PR.av h
   obtain ⟨_,_,h2,h⟩:=PR.av h
   obtain ⟨_,_,h3,h⟩:=PR.av h
   obtain ⟨_,_,h4,h⟩:=PR.av h
   obtain ⟨m,⟨ts,e1,o1,k1,l1⟩,q2,q3,q4,q5⟩:=Ec (fun h=>Ao hL h) h1
   have:=dq h2; have:=dq h3
   obtain ⟨⟨t,e2,o2,k2⟩,q6,q7⟩:=Ao hL h4
   obtain ⟨rfl,rfl⟩:=PR.bF h
   refine ⟨nR (ts++[t]) (by simp [e1,e2,Tre.gM]) (by simp [Tre.rD,o1,o2]) rfl rm ?_ rfl,by omega,q7⟩
   refine sf (fun k hk=>?_) (by simp; omega) (by simp; omega)
   refine qR (c:=oD) (ts:=ts++[t]) (fun t ht=>?_) k hk
   simp only [fS,jz] at ht
   rcases ht with ht | rfl
   . exact k1 t ht
   . exact k2
 . obtain ⟨h1,h2,h3⟩:=Ao hL h
   exact ⟨h1.low fun k hk=>by simp only [oD,pC,dS] at hk ⊢; omega,h2,h3⟩
theorem UA (hL:∀ t ∈ L,mx t) (hn:L.length <= 900) {f i j:Nat} {ns:List Nd} (h:j9 L E f i=.ok ns j):G1 L (iK.kind 5).is i ns j:=by
 unfold j9 at h
 obtain ⟨_,_,h1,h⟩:=PR.av h
 obtain ⟨_,_,h2,h⟩:=PR.av h
 obtain ⟨_,_,h3,h⟩:=PR.av h
 have a1:=nq hL h1; have:=dq h2; have a3:=Lh hL hn h3
 obtain ⟨b1,b2,b3⟩:=a3
 obtain ⟨rfl,rfl⟩:=PR.bF h
 exact ⟨xH (c1:=.type) b1 rfl (vH a1.2.2.1 a1.2.2.2) (fun k hk=>sH hk) (by simp [iK.is]),by omega,b3⟩
theorem Uw {lev i:Nat} {k:Int} (h:pg L lev i=some k) (h8:lev ≠ 8):bC k=some ⟨false,false,false,[⟨.term,2,2⟩]⟩/\cq k=true:=by
 unfold pg at h
 simp only [h8,if_false] at h
 repeat' split at h
 all_goals first
  | (cases h; exact ⟨rfl,rfl⟩)
  | cases h
theorem PW {i:Nat} {k:Int} (h:pg L 8 i=some k):k=25:=by
 unfold pg at h
 simp only [show ¬ (8:Nat)=2 by omega,show ¬ (8:Nat)=3 by omega,show ¬ (8:Nat)=5 by omega,show ¬ (8:Nat)=6 by omega,show ¬ (8:Nat)=7 by omega,if_false,if_true] at h
 split at h
 . cases h; rfl
 . cases h
theorem aaQ (hL:∀ t ∈ L,mx t) (hn:L.length <= 900):∀ f:Nat,
 (∀ {i j ns},ia L E f i=.ok ns j->G1 L cq i ns j) /\
 (∀ {i at_ acc many j ns},oO L E f at_ acc many i=.ok ns j->re cq many acc->1 <= many->many <= i->i <= L.length->pK cq ns/\i <= j/\j <= L.length) /\
 (∀ {i j ns},bD L E f i=.ok ns j->G1 L cq i ns j) /\
 (∀ {i lev j ns},eE L E f lev i=.ok ns j->G1 L cq i ns j) /\
 (∀ {i lev left j ns},lQ L E f lev left i=.ok ns j->pK cq left->i <= L.length->pK cq ns/\i <= j/\j <= L.length) /\
 (∀ {i j ns},gI L E f i=.ok ns j->G1 L cq i ns j) /\
 (∀ {i acc m j ns},lG L E f acc i=.ok ns j->re ng m acc->1 <= m->m <= i->i <= L.length->∃ m,re ng m ns/\1 <= m/\m <= j/\i <= j/\j <= L.length) /\
 (∀ {i j ns},jy L E f i=.ok ns j->G1 L ng i ns j):=by
 intro f
 induction f with
 | zero=>refine ⟨?_,?_,?_,?_,?_,?_,?_,?_⟩ <;> (intros; rename_i h; first | (rw [ia] at h; cases h; done) | (rw [bD] at h; cases h; done) | (rw [eE] at h; cases h; done) | (rw [gI] at h; cases h; done) | (rw [jy] at h; cases h; done) | (simp_all [oO]; done) | (simp_all [lQ]; done) | (simp_all [lG]; done))
 | succ f ih =>
   obtain ⟨iT,iS,iF,iO,iP,iA,iG,iR⟩:=ih
   refine ⟨?_,?_,?_,?_,?_,?_,?_,?_⟩
   . intro i j ns h
     rw [ia] at h
     obtain ⟨_,_,h1,h⟩:=PR.av h
     obtain ⟨a1,a2,a3⟩:=iF h1
     obtain ⟨b1,b2,b3⟩:=iS h a1.n (by omega) (by omega) a3
     exact ⟨b1,by omega,b3⟩
   . intro i at_ acc many j ns h ha hm HT hi
     rw [oO] at h
     split at h
     . obtain ⟨_,_,h1,h⟩:=PR.av h
       obtain ⟨a1,a2,a3⟩:=iF h1
       obtain ⟨b1,b2,b3⟩:=iS h (ha.snoc a1) (by omega) (by omega) a3
       exact ⟨b1,by omega,b3⟩
     . obtain ⟨rfl,rfl⟩:=PR.bF h
       obtain ⟨ts,e1,o1,k1,l1⟩:=ha
       split
       . rename_i h1
         match ts,l1.trans h1 with
         | [t],_=>exact ⟨⟨t,by simp [e1],by simpa using o1,k1 t (by simp)⟩,cX _,hi⟩
       . exact ⟨nR ts e1 o1 rfl rm (sf (qR (c:=cq) k1) (by simp; omega) (by simp; omega)) rfl,cX _,hi⟩
   . intro i j ns h
     rw [bD] at h
     split at h
     . obtain ⟨_,_,h1,h⟩:=PR.av h
       obtain ⟨_,_,h2,h⟩:=PR.av h
       obtain ⟨_,_,h3,h⟩:=PR.av h
       obtain ⟨_,_,h4,h⟩:=PR.av h
       obtain ⟨_,_,h5,h⟩:=PR.av h
       obtain ⟨a1,a2,a3⟩:=iF h1; have:=dq h2; obtain ⟨b1,b2,b3⟩:=iF h3; have:=dq h4; obtain ⟨c1,c2,c3⟩:=iF h5
       obtain ⟨rfl,rfl⟩:=PR.bF h
       exact ⟨Wt (c1:=.term) (c2:=.term) (c3:=.term) a1 b1 c1 rfl rm aaH rfl,by omega,c3⟩
     split at h
     . obtain ⟨_,_,h1,h⟩:=PR.av h
       obtain ⟨_,_,h2,h⟩:=PR.av h
       obtain ⟨_,_,h3,h⟩:=PR.av h
       obtain ⟨a1,a2,a3⟩:=iF h1; have:=dq h2; obtain ⟨b1,b2,b3⟩:=iF h3
       obtain ⟨rfl,rfl⟩:=PR.bF h
       exact ⟨GF (c1:=.term) (c2:=.term) a1 b1 rfl rm CJ rfl,by omega,b3⟩
     split at h
     . obtain ⟨_,_,h1,h⟩:=PR.av h
       obtain ⟨_,_,h2,h⟩:=PR.av h
       obtain ⟨_,_,h3,h⟩:=PR.av h
       obtain ⟨_,_,h4,h⟩:=PR.av h
       obtain ⟨_,_,h5,h⟩:=PR.av h
       obtain ⟨_,_,h6,h⟩:=PR.av h
       obtain ⟨_,_,h7,h⟩:=PR.av h
       have a1:=nq hL h1; have:=dq h2; have a3:=so hL h3; have:=dq h4; have a5:=so hL h5; have:=dq h6; obtain ⟨b1,b2,b3⟩:=iF h7
       obtain ⟨rfl,rfl⟩:=PR.bF h
       exact ⟨xH (c1:=.term) b1 rfl (aaJ a1.2.2.1 a1.2.2.2 a3.2.2 a5.2.2) (fun k hk=>sH hk) rfl,by omega,b3⟩
     split at h
     . obtain ⟨_,_,h1,h⟩:=PR.av h
       obtain ⟨_,_,h2,h⟩:=PR.av h
       obtain ⟨_,_,h3,h⟩:=PR.av h
       obtain ⟨_,_,h4,h⟩:=PR.av h
       obtain ⟨_,_,h5,h⟩:=PR.av h
       have a1:=nq hL h1; have:=dq h2; obtain ⟨b1,b2,b3⟩:=iF h3; have:=dq h4; obtain ⟨c1,c2,c3⟩:=iF h5
       obtain ⟨rfl,rfl⟩:=PR.bF h
       exact ⟨GF (c1:=.term) (c2:=.term) b1 c1 rfl (vH a1.2.2.1 a1.2.2.2) CJ rfl,by omega,c3⟩
     split at h
     . obtain ⟨_,_,h1,h⟩:=PR.av h
       obtain ⟨_,_,h2,h⟩:=PR.av h
       obtain ⟨_,_,h3,h⟩:=PR.av h
       obtain ⟨a1,a2,a3⟩:=iF h1; have:=dq h2; obtain ⟨b1,b2,b3⟩:=iF h3
       obtain ⟨rfl,rfl⟩:=PR.bF h
       exact ⟨GF (c1:=.term) (c2:=.term) a1 b1 rfl rm CJ rfl,by omega,b3⟩
     split at h
     . obtain ⟨_,_,h1,h⟩:=PR.av h
       obtain ⟨_,_,h2,h⟩:=PR.av h
       obtain ⟨_,_,h3,h⟩:=PR.av h
       obtain ⟨_,_,h4,h⟩:=PR.av h
       obtain ⟨_,_,h5,h⟩:=PR.av h
       have a1:=nq hL h1; have:=dq h2; have a3:=so hL h3; have:=dq h4; obtain ⟨b1,b2,b3⟩:=iF h5
       obtain ⟨rfl,rfl⟩:=PR.bF h
       exact ⟨xH (c1:=.term) b1 rfl (adn a1.2.2.1 a1.2.2.2 a3.2.2) (fun k hk=>sH hk) rfl,by omega,b3⟩
     split at h
     . obtain ⟨_,_,h1,h⟩:=PR.av h
       obtain ⟨_,_,h2,h⟩:=PR.av h
       obtain ⟨_,_,h3,h⟩:=PR.av h
       have a1:=nq hL h1; have:=dq h2; obtain ⟨b1,b2,b3⟩:=iF h3
       obtain ⟨rfl,rfl⟩:=PR.bF h
       exact ⟨xH (c1:=.term) b1 rfl (vH a1.2.2.1 a1.2.2.2) (fun k hk=>sH hk) rfl,by omega,b3⟩
     . exact iO h
   . intro i lev j ns h
     rw [eE] at h
     split at h
     . exact iA h
     split at h
     . split at h
       . obtain ⟨_,_,h1,h⟩:=PR.av h
         obtain ⟨a1,a2,a3⟩:=iO h1
         obtain ⟨rfl,rfl⟩:=PR.bF h
         exact ⟨xH (c1:=.term) a1 rfl rm (fun k hk=>sH hk) rfl,by omega,a3⟩
       . exact iO h
     . obtain ⟨_,_,h1,h⟩:=PR.av h
       obtain ⟨a1,a2,a3⟩:=iO h1
       obtain ⟨b1,b2,b3⟩:=iP h a1 a3
       exact ⟨b1,by omega,b3⟩
   . intro i lev left j ns h hl hi
     rw [lQ] at h
     split at h
     . obtain ⟨rfl,rfl⟩:=PR.bF h; exact ⟨hl,cX _,hi⟩
     rename_i kind hk
     split at h
     . rename_i h8
       subst h8
       have:=PW hk
       subst this
       obtain ⟨_,_,h1,h⟩:=PR.av h
       have a1:=so hL h1
       obtain ⟨b1,b2,b3⟩:=iP h (xH (c1:=.term) hl rfl (D1 a1.2.2) (fun k hk=>sH hk) rfl) (by omega)
       exact ⟨b1,by omega,b3⟩
     . rename_i h8
       obtain ⟨f1,f2⟩:=Uw hk h8
       obtain ⟨_,_,h1,h⟩:=PR.av h
       obtain ⟨a1,a2,a3⟩:=iO h1
       have Wa:∀ p,pK cq (node kind [] 0 0 p (left++_)):=fun p=>GF (c1:=.term) (c2:=.term) hl a1 f1 rm CJ f2
       split at h
       . obtain ⟨rfl,rfl⟩:=PR.bF h; exact ⟨Wa _,by omega,a3⟩
       . obtain ⟨b1,b2,b3⟩:=iP h (Wa _) a3
         exact ⟨b1,by omega,b3⟩
   . intro i j ns h
     rw [gI] at h
     split at h
     . have:=sj ‹_›
       obtain ⟨rfl,rfl⟩:=PR.bF h; exact ⟨jK rfl rm rfl rfl,by omega,by omega⟩
     split at h
     . have:=sj ‹_›
       obtain ⟨rfl,rfl⟩:=PR.bF h; exact ⟨jK rfl rm rfl rfl,by omega,by omega⟩
     split at h
     . have:=sj ‹_›
       obtain ⟨rfl,rfl⟩:=PR.bF h; exact ⟨jK rfl rm rfl rfl,by omega,by omega⟩
     split at h
     . have:=sj ‹_›
       obtain ⟨rfl,rfl⟩:=PR.bF h; exact ⟨jK rfl rm rfl rfl,by omega,by omega⟩
     split at h
     . obtain ⟨_,_,h1,h⟩:=PR.av h
       have a1:=nq hL h1
       obtain ⟨rfl,rfl⟩:=PR.bF h; exact ⟨jK rfl (vH a1.2.2.1 a1.2.2.2) rfl rfl,by omega,by omega⟩
     split at h
     . obtain ⟨_,_,h1,h⟩:=PR.av h
       have a1:=nq hL h1
       obtain ⟨rfl,rfl⟩:=PR.bF h; exact ⟨jK rfl (vH a1.2.2.1 a1.2.2.2) rfl rfl,by omega,by omega⟩
     split at h
     . obtain ⟨_,_,h1,h⟩:=PR.av h
       obtain ⟨_,_,h2,h⟩:=PR.av h
       obtain ⟨a1,a2,a3⟩:=iT h1; have:=dq h2
       obtain ⟨rfl,rfl⟩:=PR.bF h; exact ⟨a1,by omega,by omega⟩
     split at h
     . obtain ⟨_,_,h1,h⟩:=PR.av h
       have a1:=so hL h1
       obtain ⟨rfl,rfl⟩:=PR.bF h; exact ⟨jK rfl (D1 a1.2.2) rfl rfl,by omega,by omega⟩
     . obtain ⟨_,_,h1,h⟩:=PR.av h
       have a1:=nq hL h1
       split at h
       . obtain ⟨_,_,h2,h⟩:=PR.av h
         obtain ⟨_,_,h3,h⟩:=PR.av h
         obtain ⟨_,_,h4,h⟩:=PR.av h
         obtain ⟨b1,b2,b3⟩:=iR h2
         obtain ⟨m,⟨ts,e1,o1,k1,l1⟩,q2,q3,q4,q5⟩:=iG h3 b1.n (by omega) (by omega) b3
         have:=dq h4
         obtain ⟨rfl,rfl⟩:=PR.bF h
         exact ⟨nR ts e1 o1 rfl (vH a1.2.2.1 a1.2.2.2) (sf (qR (c:=ng) k1) (by simp; omega) (by simp; omega)) rfl,by omega,by omega⟩
       . obtain ⟨rfl,rfl⟩:=PR.bF h; exact ⟨jK rfl (vH a1.2.2.1 a1.2.2.2) rfl rfl,by omega,by omega⟩
   . intro i acc m j ns h ha hm HT hi
     rw [lG] at h
     split at h
     . obtain ⟨_,_,h1,h⟩:=PR.av h
       obtain ⟨a1,a2,a3⟩:=iR h1
       obtain ⟨m',q1,q2,q3,q4,q5⟩:=iG h (ha.snoc a1) (by omega) (by omega) a3
       exact ⟨m',q1,q2,q3,by omega,q5⟩
     . obtain ⟨rfl,rfl⟩:=PR.bF h; exact ⟨m,ha,hm,HT,cX _,hi⟩
   . intro i j ns h
     rw [jy] at h
     split at h
     . obtain ⟨_,_,h1,h⟩:=PR.av h
       obtain ⟨_,_,h2,h⟩:=PR.av h
       obtain ⟨_,_,h3,h⟩:=PR.av h
       obtain ⟨_,_,h4,h⟩:=PR.av h
       have:=dq h1
       obtain ⟨m,⟨ts,e1,o1,k1,l1⟩,q2,q3,q4,q5⟩:=Ec (fun h=>Kw hL h) h2
       have:=dq h3
       obtain ⟨⟨t,e2,o2,k2⟩,q6,q7⟩:=iF h4
       obtain ⟨rfl,rfl⟩:=PR.bF h
       refine ⟨nR (ts++[t]) (by simp [e1,e2,Tre.gM]) (by simp [Tre.rD,o1,o2]) rfl rm ?_ rfl,by omega,q7⟩
       rw [List.map_append,List.map_singleton]
       rw [se (qR (c:=(iK.kind 37).is) k1) (by simp; omega) (by simp; omega) rfl]
       exact sH k2
     split at h
     . obtain ⟨_,_,h1,h⟩:=PR.av h
       obtain ⟨_,_,h2,h⟩:=PR.av h
       obtain ⟨_,_,h3,h⟩:=PR.av h
       obtain ⟨_,_,h4,h⟩:=PR.av h
       obtain ⟨_,_,h5,h⟩:=PR.av h
       obtain ⟨_,_,h6,h⟩:=PR.av h
       obtain ⟨_,_,h7,h⟩:=PR.av h
       obtain ⟨_,_,h8,h⟩:=PR.av h
       have:=dq h1; obtain ⟨a1,a2,a3⟩:=iF h2; have:=dq h3; have:=dq h4; obtain ⟨b1,b2,b3⟩:=Kw hL h5; have:=dq h6; obtain ⟨c1,c2,c3⟩:=iF h7; have:=dq h8
       obtain ⟨rfl,rfl⟩:=PR.bF h
       refine ⟨Wt (c1:=.term) (c2:=.kind 37) (c3:=.term) a1 b1 c1 rfl rm (fun k1 k2 k3 g1 g2 g3=>?_) rfl,by omega,by omega⟩
       rw [show [k1,k2,k3]=[k1]++[k2,k3] from rfl,se (by simpa using g1) (by simp) (by simp) rfl,show [k2,k3]=[k2]++[k3] from rfl,se (by simpa using g2) (by simp) (by simp) rfl]
       exact sH g3
     . obtain ⟨a1,a2,a3⟩:=iT h
       exact ⟨a1.low fun k hk=>by simp only [cq,ng,dS] at hk ⊢; omega,a2,a3⟩
theorem X4 (hL:∀ t ∈ L,mx t) (hn:L.length <= 900) {f i j:Nat} {ns:List Nd} (h:mL L E f i=.ok ns j):G1 L iQ i ns j:=by
 unfold mL at h
 split at h
 . obtain ⟨_,_,h1,h⟩:=PR.av h
   obtain ⟨_,_,h2,h⟩:=PR.av h
   obtain ⟨_,_,h3,h⟩:=PR.av h
   obtain ⟨_,_,h4,h⟩:=PR.av h
   have a1:=nq hL h1; have:=dq h2; obtain ⟨b1,b2,b3⟩:=Lh hL hn h3; have:=dq h4
   obtain ⟨rfl,rfl⟩:=PR.bF h
   exact ⟨xH (c1:=.type) b1 rfl (vH a1.2.2.1 a1.2.2.2) (fun k hk=>sH hk) rfl,by omega,by omega⟩
 . obtain ⟨k,p,h0,h⟩:=PR.av h
   obtain ⟨_,_,h1,h⟩:=PR.av h
   obtain ⟨_,_,h2,h⟩:=PR.av h
   obtain ⟨_,_,h3,h⟩:=PR.av h
   obtain ⟨_,_,h4,h⟩:=PR.av h
   obtain ⟨_,_,h5,h⟩:=PR.av h
   obtain ⟨_,_,h6,h⟩:=PR.av h
   obtain ⟨_,_,h7,h⟩:=PR.av h
   obtain ⟨_,_,h8,h⟩:=PR.av h
   obtain ⟨_,_,h9,hz⟩:=PR.av h
   have hp:p=i+1/\(k=3\/k=4):=by
    split at h0
    . have:=PR.bF h0; omega
    . obtain ⟨_,_,g1,g2⟩:=PR.av h0
      have:=cZ g1
      have:=PR.bF g2
      omega
   obtain ⟨rfl,hk⟩:=hp
   have h3':∀ {a:List Nd} {j q:Nat},j <= L.length->(if bj L j cC=true then (PR.ok [] j:PR (List Nd)) else jT L (j9 L E f) f j)=.ok a q->∃ m,re (iK.kind 5).is m a/\m <= q/\j <= q/\q <= L.length:=fun hj h=>by
    split at h
    . obtain ⟨rfl,rfl⟩:=PR.bF h; exact ⟨0,.nil,by omega,cX _,hj⟩
    . obtain ⟨m,q1,q2,q3,q4,q5⟩:=Ec (fun h=>UA hL hn h) h
      exact ⟨m,q1,q3,by omega,q5⟩
   have a1:=nq hL h1; have:=dq h2; obtain ⟨m,⟨ts,e1,o1,k1,l1⟩,q3,q4,q5⟩:=h3' (by omega) h3; have:=dq h4; have:=dq h5; obtain ⟨⟨t2,e2,o2,k2⟩,b2,b3⟩:=Ao hL h6; have:=dq h7; obtain ⟨⟨t3,e3,o3,k3⟩,c2,c3⟩:=(aaQ hL hn f).1 h8; have:=dq h9
   obtain ⟨rfl,rfl⟩:=PR.bF hz
   have hf:bC k=some ⟨true,false,false,[⟨.kind 5,0,900⟩,⟨.base,1,1⟩,⟨.term,1,1⟩]⟩:=by
    rcases hk with rfl | rfl <;> rfl
   refine ⟨nR (ts++[t2,t3]) (by simp [e1,e2,e3,Tre.gM]) (by simp [Tre.rD,o1,o2,o3]) hf (vH a1.2.2.1 a1.2.2.2) ?_ (by rcases hk with rfl | rfl <;> rfl),by omega,by omega⟩
   rw [List.map_append]
   rw [se (qR (c:=(iK.kind 5).is) k1) (by simp) (by simp; omega) rfl]
   rw [show [t2,t3].map Tre.kind=[t2.kind]++[t3.kind] from rfl,se (fun k hk=>by simp only [jz] at hk; subst hk; exact k2) (by simp) (by simp) rfl]
   exact sH k3
theorem Il (hL:∀ t ∈ L,mx t) (hn:L.length <= 900):∀ (f:Nat) (acc:List Nd) (m i:Nat) {j:Nat} {ns:List Nd},pc L E f acc i=.ok ns j->re iQ m acc->m <= i->i <= L.length->∃ m,re iQ m ns/\m <= j/\j <= L.length
 | 0,_,_,_,_,_,h,_,_,_=>by cases h
 | f+1,acc,m,i,j,ns,h,ha,hm,hi=>by
   rw [pc] at h
   split at h
   . obtain ⟨_,_,h1,h⟩:=PR.av h
     obtain ⟨a1,a2,a3⟩:=X4 hL hn h1
     exact Il hL hn f _ (m+1) _ h (ha.snoc a1) (by omega) a3
   . obtain ⟨rfl,rfl⟩:=PR.bF h
     exact ⟨m,ha,hm,hi⟩
end
theorem SU {l:List Nd} {m:Nat} (h:re iQ m l) (hm:m <= 900):gx (node 1 [] 0 0 0 l)=if 900 < (node 1 [] 0 0 0 l).length\/ji (node 1 [] 0 0 0 l)=true then 5 else 0:=by
 obtain ⟨ts,e1,o1,k1,l1⟩:=h
 have Bg:node 1 [] 0 0 0 l=(Tre.mk 1 [] 0 0 0 ts).flat:=by rw [Tre.fp,e1]; rfl
 have cK:(Tre.mk 1 [] 0 0 0 ts).ok=true:=by
  rw [Tre.ok]
  have hf:bC 1=some ⟨false,false,false,[⟨.item,0,900⟩]⟩:=rfl
  have:=sf (c:=.item) (lo:=0) (hi:=900) (qR (c:=iQ) k1) (by simp) (by simp; omega)
  simp only [hf,rm,this,o1,Bool.and_self]
 rw [Bg]
 by_cases h9:900 < (Tre.mk 1 [] 0 0 0 ts).flat.length
 . rw [if_pos (.inl h9)]; unfold gx; rw [if_pos h9]
 . rw [zb _ h9]
   unfold BU
   rw [if_neg (by simp [Tre.kind,cK]),vJ]
   by_cases hg:60 < (Tre.mk 1 [] 0 0 0 ts).deep\/24 < (Tre.mk 1 [] 0 0 0 ts).kids.length
   . rw [if_pos hg,if_pos (.inr (by simpa using hg))]
   . rw [if_neg hg,if_neg (fun h=>hg (by rcases h with h | h; exact absurd h h9; simpa using h))]
end Go.Rip
namespace Go.Rip
open Go.Proofs Go.RowKit
section
variable {aq U:St} {v y:AV} {e:TypeId} {sz n m:Nat} {l l2:List AV} {K':AV->St->Prop} {Kp:AV->St->Prop}
end
theorem gk.jk {aq U:St} {v:AV} {ns:List Nd} (h:gk aq U v 43 6 ns.length (bK ns)):oI U v ns:=by
 rcases h.g with ⟨h1,h2,h3⟩ | ⟨τ,r1,_,_⟩
 . exact .inl (.inl ⟨h3,sv.1 h1⟩)
 . exact .inl (.inr ⟨_,r1⟩)
theorem Nc {s:aK} (h:kI s=true):s.length <= 12:=by
 unfold kI at h
 rw [dS] at h
 rcases qX h with h | h | h | h
 . exact h.2.2.1
 . omega
 . omega
 . omega
theorem zM:∀ (N:Nat) (ts:List Tre),(Tre.bG ts).length <= N->Tre.sW ts=true->∀ x ∈ Tre.bG ts,x.text.length <= 12
 | _,[],_,_=>by simp
 | 0,t::ts,hN,_=>by have:=t.ef; simp only [Tre.cS,df] at hN; omega
 | N+1,.mk k tx n m a ks::ts,hN,ho=>by
   simp only [Tre.cS,Tre.fp,df,gU] at hN
   rw [Tre.sr,Tre.ok] at ho
   simp only [bX] at ho
   obtain ⟨⟨h1,h2⟩,h3⟩:=ho
   have e1:=zM N ks (by omega) h2
   have e2:=zM N ts (by omega) h3
   intro x hx
   simp only [Tre.cS,Tre.fp,ix,cD,fS] at hx
   rcases hx with rfl | hx | hx
   . split at h1
     . rename_i f hf
       simp only [ee,bX] at h1
       obtain ⟨⟨⟨⟨⟨⟨g1,g2⟩,g3⟩,g4⟩,g5⟩,g6⟩,g7⟩:=h1
       cases KP:f.text with
       | true =>
         rw [KP] at g2
         exact Nc (by simpa using g2)
       | false =>
         rw [KP] at g1
         have:tx=[]:=by simpa using g1
         simp [this]
     . cases h1
   . exact e1 x hx
   . exact e2 x hx
end Go.Rip
namespace Go.Rip
open Go.Proofs Go.RowKit
theorem gk.apart {XB U ad:St} {v w:AV} {e sz n e2 sz2 n2:Nat} {l l2:List AV} (h:gk XB U v e sz n l) (cn:e ≠ e2) (k:gk XB U w e2 sz2 n2 l2) (hx:cW XB ad) (e1:∀ b x,(∀ n l,w ≠ .vec n (.own b) l)->U.live b=some x->ad.live b=some x):gk XB ad v e sz n l :=
 ⟨h.g.other cn k.g e1,h.z,h.t,hx⟩
end Go.Rip
namespace Go.Rip
open Go.Proofs Go.RowKit
theorem IF (U:St) (l:List Nd):oI U (eT l) l:=by
 unfold eT
 split
 . rename_i h; subst h; exact .inl (.inl ⟨rfl,rfl⟩)
 . exact .inl (.inr ⟨_,rfl⟩)
theorem Qh (l1 l2:List Nd) (h1:l1.length <= 1000000) (h2:l2.length <= 1000000):Pure K 22 [.agg [eT l1],.agg [eT l2]] (.bool (decide (l1=l2))):=by
 refine Pure.of (by simp [cA,closed,pX]) rfl (fun U=>rfl) fun R hR=>?_
 refine UN ?_
 unfold WO
 rw [fA rfl]
 intro b1 gQ
 rw [fA rfl]
 intro b2 gg
 have m1:((bM ⟨.e,0⟩).new b1 (.box (au (.agg [eT l1])))).box b1=some [eT l1]:=aG
 have m1':=(bg gg (x:=.box (au (.agg [eT l2])))).aX m1
 have m2:(((bM ⟨.e,0⟩).new b1 (.box (au (.agg [eT l1])))).new b2 (.box (au (.agg [eT l2])))).box b2=some [eT l2]:=aG
 generalize ((bM _).new b1 _).new b2 _=U at *
 simp only [aZ,al,cU]
 refine dY m1' rfl ?_
 refine dY m2 rfl ?_
 exact YJ (IF _ _) (IF _ _) h1 h2 (ak.mk (hR _))
end Go.Rip
