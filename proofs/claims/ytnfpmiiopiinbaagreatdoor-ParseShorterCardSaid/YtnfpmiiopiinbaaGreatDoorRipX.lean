/- Lemmas for the proof: no conditions. -/
import Derived.Test.YtnfpmiiopiinbaaGreatDoorRipZz
import Derived.Test.YtnfpmiiopiinbaaGreatDoorRipK
import Derived.Test.YtnfpmiiopiinbaaGreatDoorRipI
import Derived.Test.YtnfpmiiopiinbaaGreatDoorRipS
import Derived.Test.YtnfpmiiopiinbaaGreatDoorRipYb
set_option linter.unusedVariables false
set_option linter.unusedSimpArgs false
set_option linter.loopingSimpArgs false
namespace Go.Rip
theorem Mm {p:Int->Bool}:∀ {l:List Int},(∀ x ∈ l,p x=true)->l.takeWhile p=l
 | [],_=>rfl
 | a::l,h=>by rw [l9,if_pos (h a (by simp)),Mm fun x hx=>h x (by simp [hx])]
theorem sf {s:lF} {ss:List lF} {la rest:List Int} (h:∀ k ∈ la,s.c.is k=true) (h1:s.least <= la.length) (h2:la.length <= s.oh) (h3:rest.length=(ss.map (·.least)).sum):dP (la++rest) (s::ss)=dP rest ss:=by
 have htw:la.takeWhile s.c.is=la:=Mm h
 have aft:min ((la++rest).length - (ss.map (·.least)).sum) s.oh=la.length:=by
  rw [cM]; omega
 rw [dP]
 simp only [aft,List.take_left,htw,List.drop_left]
 rw [if_neg (by omega)]
theorem sg {c:iQ} {lo hi:Nat} {ks:List Int} (h:∀ k ∈ ks,c.is k=true) (h1:lo <= ks.length) (h2:ks.length <= hi):dP ks [⟨c,lo,hi⟩]=true:=by
 have:=sf (s:=⟨c,lo,hi⟩) (ss:=[]) (rest:=[]) h h1 h2 rfl
 rw [gD] at this
 rw [this]; rfl
theorem sI {c:iQ} {k:Int} (h:c.is k=true):dP [k] [⟨c,1,1⟩]=true:=sg (by simpa using h) (by simp) (by simp)
def pL (c:Int->Bool) (ns:List Nd):Prop:=∃ t:Tre,ns=t.flat/\t.ok=true/\c t.kind=true
def rS (c:Int->Bool) (m:Nat) (ns:List Nd):Prop:=∃ ts:List Tre,ns=Tre.bq ts/\Tre.sY ts=true/\(∀ t ∈ ts,c t.kind=true)/\ts.length=m
theorem rS.nil {c:Int->Bool}:rS c 0 []:=⟨[],by simp,by simp,by simp,rfl⟩
theorem pL.n {c:Int->Bool} {ns:List Nd} (h:pL c ns):rS c 1 ns:=by
 obtain ⟨t,h1,h2,h3⟩:=h
 exact ⟨[t],by simp [h1],by simp [h2],by simpa using h3,rfl⟩
theorem rS.snoc {c:Int->Bool} {m:Nat} {ns F9:List Nd} (h:rS c m ns) (k:pL c F9):rS c (m+1) (ns++F9):=by
 obtain ⟨t,h1,h2,h3⟩:=k
 obtain ⟨ts,k1,k2,k3,k4⟩:=h
 refine ⟨ts++[t],by simp [Tre.eW,h1,k1],by simp [Tre.rC,h2,k2],fun x hx=>?_,by simp [k4]⟩
 rw [gu,jX] at hx
 rcases hx with hx | rfl
 . exact k3 x hx
 . exact h3
theorem pL.low {c c':Int->Bool} {ns:List Nd} (h:pL c ns) (k:∀ x,c x=true->c' x=true):pL c' ns:=by
 obtain ⟨t,h1,h2,h3⟩:=h
 exact ⟨t,h1,h2,k _ h3⟩
section
variable {c:Int->Bool} {k:Int} {tx:aG} {n m a:Int} {f:gl} {ts:List Tre} {ns:List Nd}
theorem od (ts:List Tre) (PL:ns=Tre.bq ts) (h3:Tre.sY ts=true) (hf:bA k=some f) (h1:eg ⟨k,tx,n,m,a,0⟩ f=true) (h2:dP (ts.map Tre.kind) f.kids=true) (hc:c k=true):pL c (node k tx n m a ns):=by
 refine ⟨.mk k tx n m a ts,?_,?_,hc⟩
 . rw [Tre.eA,PL]; rfl
 . rw [Tre.ok]; simp only [hf,h1,h2,h3,Bool.and_self]
theorem jU (hf:bA k=some f) (h1:eg ⟨k,tx,n,m,a,0⟩ f=true) (h2:dP [] f.kids=true) (hc:c k=true):pL c (node k tx n m a []) :=
 od [] (by simp) (by simp) hf h1 h2 hc
theorem xR {c1:iQ} {a1:List Nd} (H1:pL c1.is a1) (hf:bA k=some f) (h1:eg ⟨k,tx,n,m,a,0⟩ f=true) (h2:∀ k1,c1.is k1=true->dP [k1] f.kids=true) (hc:c k=true):pL c (node k tx n m a a1):=by
 obtain ⟨t1,e1,o1,k1⟩:=H1
 exact od [t1] (by simp [e1]) (by simp [o1]) hf h1 (h2 _ k1) hc
theorem GZ {c1 c2:iQ} {a1 a2:List Nd} (H1:pL c1.is a1) (H2:pL c2.is a2) (hf:bA k=some f) (h1:eg ⟨k,tx,n,m,a,0⟩ f=true) (h2:∀ k1 k2,c1.is k1=true->c2.is k2=true->dP [k1,k2] f.kids=true) (hc:c k=true):pL c (node k tx n m a (a1++a2)):=by
 obtain ⟨t1,e1,o1,k1⟩:=H1
 obtain ⟨t2,e2,o2,k2⟩:=H2
 exact od [t1,t2] (by simp [e1,e2]) (by simp [o1,o2]) hf h1 (h2 _ _ k1 k2) hc
theorem WV {c1 c2 c3:iQ} {a1 a2 a3:List Nd} (H1:pL c1.is a1) (H2:pL c2.is a2) (H3:pL c3.is a3) (hf:bA k=some f) (h1:eg ⟨k,tx,n,m,a,0⟩ f=true) (h2:∀ k1 k2 k3,c1.is k1=true->c2.is k2=true->c3.is k3=true->dP [k1,k2,k3] f.kids=true) (hc:c k=true):pL c (node k tx n m a (a1++a2++a3)):=by
 obtain ⟨t1,e1,o1,k1⟩:=H1
 obtain ⟨t2,e2,o2,k2⟩:=H2
 obtain ⟨t3,e3,o3,k3⟩:=H3
 exact od [t1,t2,t3] (by simp [e1,e2,e3]) (by simp [o1,o2,o3]) hf h1 (h2 _ _ _ k1 k2 k3) hc
end
theorem CP (k1 k2:Int) (h1:iQ.term.is k1=true) (h2:iQ.term.is k2=true):dP [k1,k2] [⟨.term,2,2⟩]=true:=sg (by simp [h1,h2]) (by simp) (by simp)
theorem aa0 (k1 k2 k3:Int) (h1:iQ.term.is k1=true) (h2:iQ.term.is k2=true) (h3:iQ.term.is k3=true):dP [k1,k2,k3] [⟨.term,3,3⟩]=true:=sg (by simp [h1,h2,h3]) (by simp) (by simp)
section
variable {L:List Tk} {E:Nat}
theorem dp {w:aG} {i j:Nat} {u:Unit} (h:bI L w i=.ok u j):j=i+1/\i < L.length:=by
 have:=cH h
 unfold bI at h
 split at h
 . rename_i hw
   obtain ⟨t,ht,_⟩:=vd hw
   exact ⟨this,(dC.1 ht).1⟩
 . cases h
theorem sj {w:aG} {i:Nat} (h:bf L i w=true):i < L.length:=by
 obtain ⟨t,ht,_⟩:=vd h
 exact (dC.1 ht).1
theorem nC (hL:∀ t ∈ L,kh t) {i j:Nat} {x:aG} (h:gx L i=.ok x j):j=i+1/\i < L.length/\kL x=true/\x ≠ []:=by
 have:=jV h
 unfold gx at h
 split at h
 . rename_i t ht
   split at h
   . rename_i hk
     obtain ⟨rfl,rfl⟩:=PR.aS h
     have hm:=hL t (gr ht)
     refine ⟨this,(dC.1 ht).1,?_,hm.1⟩
     unfold kL
     rw [hm.2,hk]; simp
   . cases h
 . cases h
theorem so (hL:∀ t ∈ L,kh t) {i j:Nat} {x:Int} (h:iC L i=.ok x j):j=i+1/\i < L.length/\dH x=true:=by
 have:=om h
 unfold iC at h
 split at h
 . rename_i t ht
   split at h
   . rename_i hk
     obtain ⟨rfl,rfl⟩:=PR.aS h
     have hm:=hL t (gr ht)
     refine ⟨this,(dC.1 ht).1,?_⟩
     have:=vw hm.1 (ED hm hk)
     simp [dH,this.2.2.2]
   . cases h
 . cases h
theorem rm {k a z:Int} {l:List lF}:eg ⟨k,[],0,0,a,z⟩ ⟨false,false,false,l⟩=true:=by simp [eg,dH]
theorem vR {k a z:Int} {l:List lF} {x:aG} (hx:kL x=true) (h0:x ≠ []):eg ⟨k,x,0,0,a,z⟩ ⟨true,false,false,l⟩=true:=by simp [eg,dH,hx,h0]
theorem Ej {k a z n:Int} {l:List lF} (hn:dH n=true):eg ⟨k,[],n,0,a,z⟩ ⟨false,true,false,l⟩=true:=by
 have:dH 0=true:=by simp [dH]
 simp [eg,hn,this]
theorem adD {k a z n:Int} {l:List lF} {x:aG} (hx:kL x=true) (h0:x ≠ []) (hn:dH n=true):eg ⟨k,x,n,0,a,z⟩ ⟨true,true,false,l⟩=true:=by
 have:dH 0=true:=by simp [dH]
 simp [eg,hn,this,hx,h0]
theorem aa2 {k a z n m:Int} {l:List lF} {x:aG} (hx:kL x=true) (h0:x ≠ []) (hn:dH n=true) (hm:dH m=true):eg ⟨k,x,n,m,a,z⟩ ⟨true,true,true,l⟩=true:=by
 simp [eg,hn,hm,hx,h0]
def G1 (L:List Tk) (c:Int->Bool) (i:Nat) (ns:List Nd) (j:Nat):Prop:=pL c ns/\i < j/\j <= L.length
theorem Av (hL:∀ t ∈ L,kh t) {i j:Nat} {ns:List Nd} (h:fM L E i=.ok ns j):G1 L oM i ns j:=by
 unfold fM at h
 split at h
 . rename_i hw
   have:=sj hw
   obtain ⟨rfl,rfl⟩:=PR.aS h
   exact ⟨jU rfl (Ej rfl) rfl rfl,by omega,by omega⟩
 . split at h
   . rename_i hw
     have:=sj hw
     obtain ⟨rfl,rfl⟩:=PR.aS h
     exact ⟨jU rfl (Ej rfl) rfl rfl,by omega,by omega⟩
   . split at h
     . obtain ⟨_,_,h1,h⟩:=PR.ah h
       have:=so hL h1
       obtain ⟨rfl,rfl⟩:=PR.aS h
       exact ⟨jU rfl (Ej this.2.2) rfl rfl,by omega,by omega⟩
     . obtain ⟨_,_,h1,h⟩:=PR.ah h
       obtain ⟨_,_,h2,h⟩:=PR.ah h
       have:=dp h1; have:=so hL h2
       obtain ⟨rfl,rfl⟩:=PR.aS h
       exact ⟨jU rfl (Ej this.2.2) rfl rfl,by omega,by omega⟩
theorem K2 (hL:∀ t ∈ L,kh t) {i j:Nat} {ns:List Nd} (h:kW L E i=.ok ns j):G1 L (iQ.kind 37).is i ns j:=by
 unfold kW at h
 obtain ⟨_,_,h1,h⟩:=PR.ah h
 have:=nC hL h1
 obtain ⟨rfl,rfl⟩:=PR.aS h
 exact ⟨jU rfl (vR this.2.2.1 this.2.2.2) rfl (by simp [iQ.is]),by omega,by omega⟩
theorem LR {c:Int->Bool} {one:Nat->PR (List Nd)} (h1:∀ {i j ns},one i=.ok ns j->G1 L c i ns j):∀ (f:Nat) (acc:List Nd) (m i:Nat) {j:Nat} {ns:List Nd},lV L one f acc i=.ok ns j->rS c m acc->1 <= m->m <= i->i <= L.length->∃ m,rS c m ns/\1 <= m/\m <= j/\i <= j/\j <= L.length
 | 0,_,_,_,_,_,h,_,_,_,_=>by cases h
 | f+1,acc,m,i,j,ns,h,ha,hm,Ir,hi=>by
   unfold lV at h
   split at h
   . obtain ⟨_,_,h2,h⟩:=PR.ah h
     obtain ⟨k1,k2,k3⟩:=h1 h2
     obtain ⟨m',q1,q2,q3,q4,q5⟩:=LR h1 f _ (m+1) _ h (ha.snoc k1) (by omega) (by omega) k3
     exact ⟨m',q1,q2,q3,by omega,q5⟩
   . obtain ⟨rfl,rfl⟩:=PR.aS h
     exact ⟨m,ha,hm,Ir,bT _,hi⟩
theorem Eu {c:Int->Bool} {one:Nat->PR (List Nd)} (h1:∀ {i j ns},one i=.ok ns j->G1 L c i ns j) {f i j:Nat} {ns:List Nd} (h:ju L one f i=.ok ns j):∃ m,rS c m ns/\1 <= m/\m <= j/\i < j/\j <= L.length:=by
 unfold ju at h
 obtain ⟨_,_,h2,h⟩:=PR.ah h
 obtain ⟨k1,k2,k3⟩:=h1 h2
 obtain ⟨m',q1,q2,q3,q4,q5⟩:=LR h1 f _ 1 _ h k1.n (by omega) (by omega) k3
 exact ⟨m',q1,q2,q3,by omega,q5⟩
theorem qT {c:Int->Bool} {ts:List Tre} (h:∀ t ∈ ts,c t.kind=true):∀ k ∈ ts.map Tre.kind,c k=true:=fun k hk=>by
 obtain ⟨t,ht,rfl⟩:=List.mem_map.1 hk
 exact h t ht
theorem LN (hL:∀ t ∈ L,kh t) (hn:L.length <= 900) {f i j:Nat} {ns:List Nd} (h:jh L E f i=.ok ns j):G1 L pE i ns j:=by
 unfold jh at h
 split at h
 . obtain ⟨_,_,h1,h⟩:=PR.ah h
   obtain ⟨_,_,h2,h⟩:=PR.ah h
   obtain ⟨_,_,h3,h⟩:=PR.ah h
   obtain ⟨_,_,h4,h⟩:=PR.ah h
   obtain ⟨m,⟨ts,e1,o1,k1,l1⟩,q2,q3,q4,q5⟩:=Eu (fun h=>Av hL h) h1
   have:=dp h2; have:=dp h3
   obtain ⟨⟨t,e2,o2,k2⟩,q6,q7⟩:=Av hL h4
   obtain ⟨rfl,rfl⟩:=PR.aS h
   refine ⟨od (ts++[t]) (by simp [e1,e2,Tre.eW]) (by simp [Tre.rC,o1,o2]) rfl rm ?_ rfl,by omega,q7⟩
   refine sg (fun k hk=>?_) (by simp; omega) (by simp; omega)
   refine qT (c:=oM) (ts:=ts++[t]) (fun t ht=>?_) k hk
   simp only [gu,jX] at ht
   rcases ht with ht | rfl
   . exact k1 t ht
   . exact k2
 . obtain ⟨h1,h2,h3⟩:=Av hL h
   exact ⟨h1.low fun k hk=>by simp only [oM,pE,ee] at hk ⊢; omega,h2,h3⟩
theorem U7 (hL:∀ t ∈ L,kh t) (hn:L.length <= 900) {f i j:Nat} {ns:List Nd} (h:jx L E f i=.ok ns j):G1 L (iQ.kind 5).is i ns j:=by
 unfold jx at h
 obtain ⟨_,_,h1,h⟩:=PR.ah h
 obtain ⟨_,_,h2,h⟩:=PR.ah h
 obtain ⟨_,_,h3,h⟩:=PR.ah h
 have a1:=nC hL h1; have:=dp h2; have a3:=LN hL hn h3
 obtain ⟨b1,b2,b3⟩:=a3
 obtain ⟨rfl,rfl⟩:=PR.aS h
 exact ⟨xR (c1:=.type) b1 rfl (vR a1.2.2.1 a1.2.2.2) (fun k hk=>sI hk) (by simp [iQ.is]),by omega,b3⟩
theorem U2 {lev i:Nat} {k:Int} (h:nD L lev i=some k) (h8:lev ≠ 8):bA k=some ⟨false,false,false,[⟨.term,2,2⟩]⟩/\cj k=true:=by
 unfold nD at h
 simp only [h8,if_false] at h
 repeat' split at h
 all_goals first
  | (cases h; exact ⟨rfl,rfl⟩)
  | cases h
theorem QA {i:Nat} {k:Int} (h:nD L 8 i=some k):k=25:=by
 unfold nD at h
 simp only [show ¬ (8:Nat)=2 by omega,show ¬ (8:Nat)=3 by omega,show ¬ (8:Nat)=5 by omega,show ¬ (8:Nat)=6 by omega,show ¬ (8:Nat)=7 by omega,if_false,if_true] at h
 split at h
 . cases h; rfl
 . cases h
theorem aba (hL:∀ t ∈ L,kh t) (hn:L.length <= 900):∀ f:Nat,
 (∀ {i j ns},gJ L E f i=.ok ns j->G1 L cj i ns j) /\
 (∀ {i at_ acc many j ns},mR L E f at_ acc many i=.ok ns j->rS cj many acc->1 <= many->many <= i->i <= L.length->pL cj ns/\i <= j/\j <= L.length) /\
 (∀ {i j ns},bw L E f i=.ok ns j->G1 L cj i ns j) /\
 (∀ {i lev j ns},dX L E f lev i=.ok ns j->G1 L cj i ns j) /\
 (∀ {i lev left j ns},kM L E f lev left i=.ok ns j->pL cj left->i <= L.length->pL cj ns/\i <= j/\j <= L.length) /\
 (∀ {i j ns},fY L E f i=.ok ns j->G1 L cj i ns j) /\
 (∀ {i acc m j ns},j9 L E f acc i=.ok ns j->rS nz m acc->1 <= m->m <= i->i <= L.length->∃ m,rS nz m ns/\1 <= m/\m <= j/\i <= j/\j <= L.length) /\
 (∀ {i j ns},iL L E f i=.ok ns j->G1 L nz i ns j):=by
 intro f
 induction f with
 | zero=>refine ⟨?_,?_,?_,?_,?_,?_,?_,?_⟩ <;> (intros; rename_i h; first | (rw [gJ] at h; cases h; done) | (rw [bw] at h; cases h; done) | (rw [dX] at h; cases h; done) | (rw [fY] at h; cases h; done) | (rw [iL] at h; cases h; done) | (simp_all [mR]; done) | (simp_all [kM]; done) | (simp_all [j9]; done))
 | succ f ih =>
   obtain ⟨iT,iS,iF,iO,iP,iA,iG,iR⟩:=ih
   refine ⟨?_,?_,?_,?_,?_,?_,?_,?_⟩
   . intro i j ns h
     rw [gJ] at h
     obtain ⟨_,_,h1,h⟩:=PR.ah h
     obtain ⟨a1,a2,a3⟩:=iF h1
     obtain ⟨b1,b2,b3⟩:=iS h a1.n (by omega) (by omega) a3
     exact ⟨b1,by omega,b3⟩
   . intro i at_ acc many j ns h ha hm Ir hi
     rw [mR] at h
     split at h
     . obtain ⟨_,_,h1,h⟩:=PR.ah h
       obtain ⟨a1,a2,a3⟩:=iF h1
       obtain ⟨b1,b2,b3⟩:=iS h (ha.snoc a1) (by omega) (by omega) a3
       exact ⟨b1,by omega,b3⟩
     . obtain ⟨rfl,rfl⟩:=PR.aS h
       obtain ⟨ts,e1,o1,k1,l1⟩:=ha
       split
       . rename_i h1
         match ts,l1.trans h1 with
         | [t],_=>exact ⟨⟨t,by simp [e1],by simpa using o1,k1 t (by simp)⟩,bT _,hi⟩
       . exact ⟨od ts e1 o1 rfl rm (sg (qT (c:=cj) k1) (by simp; omega) (by simp; omega)) rfl,bT _,hi⟩
   . intro i j ns h
     rw [bw] at h
     split at h
     . obtain ⟨_,_,h1,h⟩:=PR.ah h
       obtain ⟨_,_,h2,h⟩:=PR.ah h
       obtain ⟨_,_,h3,h⟩:=PR.ah h
       obtain ⟨_,_,h4,h⟩:=PR.ah h
       obtain ⟨_,_,h5,h⟩:=PR.ah h
       obtain ⟨a1,a2,a3⟩:=iF h1; have:=dp h2; obtain ⟨b1,b2,b3⟩:=iF h3; have:=dp h4; obtain ⟨c1,c2,c3⟩:=iF h5
       obtain ⟨rfl,rfl⟩:=PR.aS h
       exact ⟨WV (c1:=.term) (c2:=.term) (c3:=.term) a1 b1 c1 rfl rm aa0 rfl,by omega,c3⟩
     split at h
     . obtain ⟨_,_,h1,h⟩:=PR.ah h
       obtain ⟨_,_,h2,h⟩:=PR.ah h
       obtain ⟨_,_,h3,h⟩:=PR.ah h
       obtain ⟨a1,a2,a3⟩:=iF h1; have:=dp h2; obtain ⟨b1,b2,b3⟩:=iF h3
       obtain ⟨rfl,rfl⟩:=PR.aS h
       exact ⟨GZ (c1:=.term) (c2:=.term) a1 b1 rfl rm CP rfl,by omega,b3⟩
     split at h
     . obtain ⟨_,_,h1,h⟩:=PR.ah h
       obtain ⟨_,_,h2,h⟩:=PR.ah h
       obtain ⟨_,_,h3,h⟩:=PR.ah h
       obtain ⟨_,_,h4,h⟩:=PR.ah h
       obtain ⟨_,_,h5,h⟩:=PR.ah h
       obtain ⟨_,_,h6,h⟩:=PR.ah h
       obtain ⟨_,_,h7,h⟩:=PR.ah h
       have a1:=nC hL h1; have:=dp h2; have a3:=so hL h3; have:=dp h4; have a5:=so hL h5; have:=dp h6; obtain ⟨b1,b2,b3⟩:=iF h7
       obtain ⟨rfl,rfl⟩:=PR.aS h
       exact ⟨xR (c1:=.term) b1 rfl (aa2 a1.2.2.1 a1.2.2.2 a3.2.2 a5.2.2) (fun k hk=>sI hk) rfl,by omega,b3⟩
     split at h
     . obtain ⟨_,_,h1,h⟩:=PR.ah h
       obtain ⟨_,_,h2,h⟩:=PR.ah h
       obtain ⟨_,_,h3,h⟩:=PR.ah h
       obtain ⟨_,_,h4,h⟩:=PR.ah h
       obtain ⟨_,_,h5,h⟩:=PR.ah h
       have a1:=nC hL h1; have:=dp h2; obtain ⟨b1,b2,b3⟩:=iF h3; have:=dp h4; obtain ⟨c1,c2,c3⟩:=iF h5
       obtain ⟨rfl,rfl⟩:=PR.aS h
       exact ⟨GZ (c1:=.term) (c2:=.term) b1 c1 rfl (vR a1.2.2.1 a1.2.2.2) CP rfl,by omega,c3⟩
     split at h
     . obtain ⟨_,_,h1,h⟩:=PR.ah h
       obtain ⟨_,_,h2,h⟩:=PR.ah h
       obtain ⟨_,_,h3,h⟩:=PR.ah h
       obtain ⟨a1,a2,a3⟩:=iF h1; have:=dp h2; obtain ⟨b1,b2,b3⟩:=iF h3
       obtain ⟨rfl,rfl⟩:=PR.aS h
       exact ⟨GZ (c1:=.term) (c2:=.term) a1 b1 rfl rm CP rfl,by omega,b3⟩
     split at h
     . obtain ⟨_,_,h1,h⟩:=PR.ah h
       obtain ⟨_,_,h2,h⟩:=PR.ah h
       obtain ⟨_,_,h3,h⟩:=PR.ah h
       obtain ⟨_,_,h4,h⟩:=PR.ah h
       obtain ⟨_,_,h5,h⟩:=PR.ah h
       have a1:=nC hL h1; have:=dp h2; have a3:=so hL h3; have:=dp h4; obtain ⟨b1,b2,b3⟩:=iF h5
       obtain ⟨rfl,rfl⟩:=PR.aS h
       exact ⟨xR (c1:=.term) b1 rfl (adD a1.2.2.1 a1.2.2.2 a3.2.2) (fun k hk=>sI hk) rfl,by omega,b3⟩
     split at h
     . obtain ⟨_,_,h1,h⟩:=PR.ah h
       obtain ⟨_,_,h2,h⟩:=PR.ah h
       obtain ⟨_,_,h3,h⟩:=PR.ah h
       have a1:=nC hL h1; have:=dp h2; obtain ⟨b1,b2,b3⟩:=iF h3
       obtain ⟨rfl,rfl⟩:=PR.aS h
       exact ⟨xR (c1:=.term) b1 rfl (vR a1.2.2.1 a1.2.2.2) (fun k hk=>sI hk) rfl,by omega,b3⟩
     . exact iO h
   . intro i lev j ns h
     rw [dX] at h
     split at h
     . exact iA h
     split at h
     . split at h
       . obtain ⟨_,_,h1,h⟩:=PR.ah h
         obtain ⟨a1,a2,a3⟩:=iO h1
         obtain ⟨rfl,rfl⟩:=PR.aS h
         exact ⟨xR (c1:=.term) a1 rfl rm (fun k hk=>sI hk) rfl,by omega,a3⟩
       . exact iO h
     . obtain ⟨_,_,h1,h⟩:=PR.ah h
       obtain ⟨a1,a2,a3⟩:=iO h1
       obtain ⟨b1,b2,b3⟩:=iP h a1 a3
       exact ⟨b1,by omega,b3⟩
   . intro i lev left j ns h hl hi
     rw [kM] at h
     split at h
     . obtain ⟨rfl,rfl⟩:=PR.aS h; exact ⟨hl,bT _,hi⟩
     rename_i kind hk
     split at h
     . rename_i h8
       subst h8
       have:=QA hk
       subst this
       obtain ⟨_,_,h1,h⟩:=PR.ah h
       have a1:=so hL h1
       obtain ⟨b1,b2,b3⟩:=iP h (xR (c1:=.term) hl rfl (Ej a1.2.2) (fun k hk=>sI hk) rfl) (by omega)
       exact ⟨b1,by omega,b3⟩
     . rename_i h8
       obtain ⟨f1,f2⟩:=U2 hk h8
       obtain ⟨_,_,h1,h⟩:=PR.ah h
       obtain ⟨a1,a2,a3⟩:=iO h1
       have WD:∀ p,pL cj (node kind [] 0 0 p (left++_)):=fun p=>GZ (c1:=.term) (c2:=.term) hl a1 f1 rm CP f2
       split at h
       . obtain ⟨rfl,rfl⟩:=PR.aS h; exact ⟨WD _,by omega,a3⟩
       . obtain ⟨b1,b2,b3⟩:=iP h (WD _) a3
         exact ⟨b1,by omega,b3⟩
   . intro i j ns h
     rw [fY] at h
     split at h
     . have:=sj ‹_›
       obtain ⟨rfl,rfl⟩:=PR.aS h; exact ⟨jU rfl rm rfl rfl,by omega,by omega⟩
     split at h
     . have:=sj ‹_›
       obtain ⟨rfl,rfl⟩:=PR.aS h; exact ⟨jU rfl rm rfl rfl,by omega,by omega⟩
     split at h
     . have:=sj ‹_›
       obtain ⟨rfl,rfl⟩:=PR.aS h; exact ⟨jU rfl rm rfl rfl,by omega,by omega⟩
     split at h
     . have:=sj ‹_›
       obtain ⟨rfl,rfl⟩:=PR.aS h; exact ⟨jU rfl rm rfl rfl,by omega,by omega⟩
     split at h
     . obtain ⟨_,_,h1,h⟩:=PR.ah h
       have a1:=nC hL h1
       obtain ⟨rfl,rfl⟩:=PR.aS h; exact ⟨jU rfl (vR a1.2.2.1 a1.2.2.2) rfl rfl,by omega,by omega⟩
     split at h
     . obtain ⟨_,_,h1,h⟩:=PR.ah h
       have a1:=nC hL h1
       obtain ⟨rfl,rfl⟩:=PR.aS h; exact ⟨jU rfl (vR a1.2.2.1 a1.2.2.2) rfl rfl,by omega,by omega⟩
     split at h
     . obtain ⟨_,_,h1,h⟩:=PR.ah h
       obtain ⟨_,_,h2,h⟩:=PR.ah h
       obtain ⟨a1,a2,a3⟩:=iT h1; have:=dp h2
       obtain ⟨rfl,rfl⟩:=PR.aS h; exact ⟨a1,by omega,by omega⟩
     split at h
     . obtain ⟨_,_,h1,h⟩:=PR.ah h
       have a1:=so hL h1
       obtain ⟨rfl,rfl⟩:=PR.aS h; exact ⟨jU rfl (Ej a1.2.2) rfl rfl,by omega,by omega⟩
     . obtain ⟨_,_,h1,h⟩:=PR.ah h
       have a1:=nC hL h1
       split at h
       . obtain ⟨_,_,h2,h⟩:=PR.ah h
         obtain ⟨_,_,h3,h⟩:=PR.ah h
         obtain ⟨_,_,h4,h⟩:=PR.ah h
         obtain ⟨b1,b2,b3⟩:=iR h2
         obtain ⟨m,⟨ts,e1,o1,k1,l1⟩,q2,q3,q4,q5⟩:=iG h3 b1.n (by omega) (by omega) b3
         have:=dp h4
         obtain ⟨rfl,rfl⟩:=PR.aS h
         exact ⟨od ts e1 o1 rfl (vR a1.2.2.1 a1.2.2.2) (sg (qT (c:=nz) k1) (by simp; omega) (by simp; omega)) rfl,by omega,by omega⟩
       . obtain ⟨rfl,rfl⟩:=PR.aS h; exact ⟨jU rfl (vR a1.2.2.1 a1.2.2.2) rfl rfl,by omega,by omega⟩
   . intro i acc m j ns h ha hm Ir hi
     rw [j9] at h
     split at h
     . obtain ⟨_,_,h1,h⟩:=PR.ah h
       obtain ⟨a1,a2,a3⟩:=iR h1
       obtain ⟨m',q1,q2,q3,q4,q5⟩:=iG h (ha.snoc a1) (by omega) (by omega) a3
       exact ⟨m',q1,q2,q3,by omega,q5⟩
     . obtain ⟨rfl,rfl⟩:=PR.aS h; exact ⟨m,ha,hm,Ir,bT _,hi⟩
   . intro i j ns h
     rw [iL] at h
     split at h
     . obtain ⟨_,_,h1,h⟩:=PR.ah h
       obtain ⟨_,_,h2,h⟩:=PR.ah h
       obtain ⟨_,_,h3,h⟩:=PR.ah h
       obtain ⟨_,_,h4,h⟩:=PR.ah h
       have:=dp h1
       obtain ⟨m,⟨ts,e1,o1,k1,l1⟩,q2,q3,q4,q5⟩:=Eu (fun h=>K2 hL h) h2
       have:=dp h3
       obtain ⟨⟨t,e2,o2,k2⟩,q6,q7⟩:=iF h4
       obtain ⟨rfl,rfl⟩:=PR.aS h
       refine ⟨od (ts++[t]) (by simp [e1,e2,Tre.eW]) (by simp [Tre.rC,o1,o2]) rfl rm ?_ rfl,by omega,q7⟩
       rw [List.map_append,List.map_singleton]
       rw [sf (qT (c:=(iQ.kind 37).is) k1) (by simp; omega) (by simp; omega) rfl]
       exact sI k2
     split at h
     . obtain ⟨_,_,h1,h⟩:=PR.ah h
       obtain ⟨_,_,h2,h⟩:=PR.ah h
       obtain ⟨_,_,h3,h⟩:=PR.ah h
       obtain ⟨_,_,h4,h⟩:=PR.ah h
       obtain ⟨_,_,h5,h⟩:=PR.ah h
       obtain ⟨_,_,h6,h⟩:=PR.ah h
       obtain ⟨_,_,h7,h⟩:=PR.ah h
       obtain ⟨_,_,h8,h⟩:=PR.ah h
       have:=dp h1; obtain ⟨a1,a2,a3⟩:=iF h2; have:=dp h3; have:=dp h4; obtain ⟨b1,b2,b3⟩:=K2 hL h5; have:=dp h6; obtain ⟨c1,c2,c3⟩:=iF h7; have:=dp h8
       obtain ⟨rfl,rfl⟩:=PR.aS h
       refine ⟨WV (c1:=.term) (c2:=.kind 37) (c3:=.term) a1 b1 c1 rfl rm (fun k1 k2 k3 g1 g2 g3=>?_) rfl,by omega,by omega⟩
       rw [show [k1,k2,k3]=[k1]++[k2,k3] from rfl,sf (by simpa using g1) (by simp) (by simp) rfl,show [k2,k3]=[k2]++[k3] from rfl,sf (by simpa using g2) (by simp) (by simp) rfl]
       exact sI g3
     . obtain ⟨a1,a2,a3⟩:=iT h
       exact ⟨a1.low fun k hk=>by simp only [cj,nz,ee] at hk ⊢; omega,a2,a3⟩
theorem Yo (hL:∀ t ∈ L,kh t) (hn:L.length <= 900) {f i j:Nat} {ns:List Nd} (h:lU L E f i=.ok ns j):G1 L iY i ns j:=by
 unfold lU at h
 split at h
 . obtain ⟨_,_,h1,h⟩:=PR.ah h
   obtain ⟨_,_,h2,h⟩:=PR.ah h
   obtain ⟨_,_,h3,h⟩:=PR.ah h
   obtain ⟨_,_,h4,h⟩:=PR.ah h
   have a1:=nC hL h1; have:=dp h2; obtain ⟨b1,b2,b3⟩:=LN hL hn h3; have:=dp h4
   obtain ⟨rfl,rfl⟩:=PR.aS h
   exact ⟨xR (c1:=.type) b1 rfl (vR a1.2.2.1 a1.2.2.2) (fun k hk=>sI hk) rfl,by omega,by omega⟩
 . obtain ⟨k,p,h0,h⟩:=PR.ah h
   obtain ⟨_,_,h1,h⟩:=PR.ah h
   obtain ⟨_,_,h2,h⟩:=PR.ah h
   obtain ⟨_,_,h3,h⟩:=PR.ah h
   obtain ⟨_,_,h4,h⟩:=PR.ah h
   obtain ⟨_,_,h5,h⟩:=PR.ah h
   obtain ⟨_,_,h6,h⟩:=PR.ah h
   obtain ⟨_,_,h7,h⟩:=PR.ah h
   obtain ⟨_,_,h8,h⟩:=PR.ah h
   obtain ⟨_,_,h9,hz⟩:=PR.ah h
   have hp:p=i+1/\(k=3\/k=4):=by
    split at h0
    . have:=PR.aS h0; omega
    . obtain ⟨_,_,g1,g2⟩:=PR.ah h0
      have:=cH g1
      have:=PR.aS g2
      omega
   obtain ⟨rfl,hk⟩:=hp
   have h3':∀ {a:List Nd} {j q:Nat},j <= L.length->(if bf L j cg=true then (PR.ok [] j:PR (List Nd)) else ju L (jx L E f) f j)=.ok a q->∃ m,rS (iQ.kind 5).is m a/\m <= q/\j <= q/\q <= L.length:=fun hj h=>by
    split at h
    . obtain ⟨rfl,rfl⟩:=PR.aS h; exact ⟨0,.nil,by omega,bT _,hj⟩
    . obtain ⟨m,q1,q2,q3,q4,q5⟩:=Eu (fun h=>U7 hL hn h) h
      exact ⟨m,q1,q3,by omega,q5⟩
   have a1:=nC hL h1; have:=dp h2; obtain ⟨m,⟨ts,e1,o1,k1,l1⟩,q3,q4,q5⟩:=h3' (by omega) h3; have:=dp h4; have:=dp h5; obtain ⟨⟨t2,e2,o2,k2⟩,b2,b3⟩:=Av hL h6; have:=dp h7; obtain ⟨⟨t3,e3,o3,k3⟩,c2,c3⟩:=(aba hL hn f).1 h8; have:=dp h9
   obtain ⟨rfl,rfl⟩:=PR.aS hz
   have hf:bA k=some ⟨true,false,false,[⟨.kind 5,0,900⟩,⟨.base,1,1⟩,⟨.term,1,1⟩]⟩:=by
    rcases hk with rfl | rfl <;> rfl
   refine ⟨od (ts++[t2,t3]) (by simp [e1,e2,e3,Tre.eW]) (by simp [Tre.rC,o1,o2,o3]) hf (vR a1.2.2.1 a1.2.2.2) ?_ (by rcases hk with rfl | rfl <;> rfl),by omega,by omega⟩
   rw [List.map_append]
   rw [sf (qT (c:=(iQ.kind 5).is) k1) (by simp) (by simp; omega) rfl]
   rw [show [t2,t3].map Tre.kind=[t2.kind]++[t3.kind] from rfl,sf (fun k hk=>by simp only [jX] at hk; subst hk; exact k2) (by simp) (by simp) rfl]
   exact sI k3
theorem B8 (hL:∀ t ∈ L,kh t) (hn:L.length <= 900):∀ (f:Nat) (acc:List Nd) (m i:Nat) {j:Nat} {ns:List Nd},jN L E f acc i=.ok ns j->rS iY m acc->m <= i->i <= L.length->∃ m,rS iY m ns/\m <= j/\j <= L.length
 | 0,_,_,_,_,_,h,_,_,_=>by cases h
 | f+1,acc,m,i,j,ns,h,ha,hm,hi=>by
   rw [jN] at h
   split at h
   . obtain ⟨_,_,h1,h⟩:=PR.ah h
     obtain ⟨a1,a2,a3⟩:=Yo hL hn h1
     exact B8 hL hn f _ (m+1) _ h (ha.snoc a1) (by omega) a3
   . obtain ⟨rfl,rfl⟩:=PR.aS h
     exact ⟨m,ha,hm,hi⟩
end
theorem GF {l:List Nd} {m:Nat} (h:rS iY m l) (hm:m <= 900):gp (node 1 [] 0 0 0 l)=if 900 < (node 1 [] 0 0 0 l).length\/jt (node 1 [] 0 0 0 l)=true then 5 else 0:=by
 obtain ⟨ts,e1,o1,k1,l1⟩:=h
 have Bk:node 1 [] 0 0 0 l=(Tre.mk 1 [] 0 0 0 ts).flat:=by rw [Tre.eA,e1]; rfl
 have cO:(Tre.mk 1 [] 0 0 0 ts).ok=true:=by
  rw [Tre.ok]
  have hf:bA 1=some ⟨false,false,false,[⟨.item,0,900⟩]⟩:=rfl
  have:=sg (c:=.item) (lo:=0) (hi:=900) (qT (c:=iY) k1) (by simp) (by simp; omega)
  simp only [hf,rm,this,o1,Bool.and_self]
 rw [Bk]
 by_cases h9:900 < (Tre.mk 1 [] 0 0 0 ts).flat.length
 . rw [if_pos (.inl h9)]; unfold gp; rw [if_pos h9]
 . rw [zd _ h9]
   unfold BY
   rw [if_neg (by simp [Tre.kind,cO]),vT]
   by_cases hg:60 < (Tre.mk 1 [] 0 0 0 ts).deep\/24 < (Tre.mk 1 [] 0 0 0 ts).kids.length
   . rw [if_pos hg,if_pos (.inr (by simpa using hg))]
   . rw [if_neg hg,if_neg (fun h=>hg (by rcases h with h | h; exact absurd h h9; simpa using h))]
end Go.Rip
namespace Go.Rip
open Go.Proofs Go.RowKit
section
variable {au U:St} {v y:AV} {e:TypeId} {sz n m:Nat} {l l2:List AV} {K':AV->St->Prop} {Kp:AV->St->Prop}
end
theorem NS {s:aG} (h:kL s=true):s.length <= 12:=by
 unfold kL at h
 rw [ee] at h
 rcases qZ h with h | h | h | h
 . exact h.2.2.1
 . omega
 . omega
 . omega
theorem zO:∀ (N:Nat) (ts:List Tre),(Tre.bq ts).length <= N->Tre.sY ts=true->∀ x ∈ Tre.bq ts,x.text.length <= 12
 | _,[],_,_=>by simp
 | 0,t::ts,hN,_=>by have:=t.dE; simp only [Tre.cx,cM] at hN; omega
 | N+1,.mk k tx n m a ks::ts,hN,ho=>by
   simp only [Tre.cx,Tre.eA,cM,fm] at hN
   rw [Tre.sr,Tre.ok] at ho
   simp only [bS] at ho
   obtain ⟨⟨h1,h2⟩,h3⟩:=ho
   have e1:=zO N ks (by omega) h2
   have e2:=zO N ts (by omega) h3
   intro x hx
   simp only [Tre.cx,Tre.eA,gE,cJ,gu] at hx
   rcases hx with rfl | hx | hx
   . split at h1
     . rename_i f hf
       simp only [eg,bS] at h1
       obtain ⟨⟨⟨⟨⟨⟨g1,g2⟩,g3⟩,g4⟩,g5⟩,g6⟩,g7⟩:=h1
       cases Lm:f.text with
       | true =>
         rw [Lm] at g2
         exact NS (by simpa using g2)
       | false =>
         rw [Lm] at g1
         have:tx=[]:=by simpa using g1
         simp [this]
     . cases h1
   . exact e1 x hx
   . exact e2 x hx
end Go.Rip
