/- Lemmas for the proof: no conditions. -/
import Derived.Test.YtnfpmiiopiinbaaGreatDoorRipZz
import Derived.Test.YtnfpmiiopiinbaaGreatDoorRipK
import Derived.Test.YtnfpmiiopiinbaaGreatDoorRipI
import Derived.Test.YtnfpmiiopiinbaaGreatDoorRipS
import Derived.Test.YtnfpmiiopiinbaaGreatDoorRipYb
import Derived.Test.YtnfpmiiopiinbaaGreatDoorRipAw
set_option linter.unusedVariables false
set_option linter.unusedSimpArgs false
set_option linter.loopingSimpArgs false
namespace Go.Rip
theorem Ii {p:Int->Bool}:∀ {l:List Int},(∀ x∈l,p x=true)->l.takeWhile p=l
 | [],_=>rfl
 | a::l,h=>by rw[mj,if_pos (h a (by simp)),Ii λ x hx=>h x (by simp[hx])]
theorem pc {s:lj} {ss:List lj} {la rest:List Int} (h:∀ k∈la,s.c.is k=true) (h1:s.least<=la.length) (h2:la.length<=s.nT) (h3:rest.length=(ss.map (·.least)).sum):gS (la++rest) (s::ss)=gS rest ss:=by
 have RB:la.takeWhile s.c.is=la:=Ii h;have aaK:min ((la++rest).length-(ss.map (·.least)).sum) s.nT=la.length:=by
  rw[eG]; omega
 rw[gS];simp only[aaK,List.take_left,RB,List.drop_left];rw[if_neg (by omega)]
theorem pd {c:mS} {lo hi:Nat} {ks:List Int} (h:∀ k∈ks,c.is k=true) (h1:lo<=ks.length) (h2:ks.length<=hi):gS ks [⟨c,lo,hi⟩]=true:=by
 have:=pc (s:=⟨c,lo,hi⟩) (ss:=[]) (rest:=[]) h h1 h2 rfl;rw[jn]at this;rw[this]; rfl
theorem pF {c:mS} {k:Int} (h:c.is k=true):gS [k] [⟨c,1,1⟩]=true:=pd (by simpa using h) (by simp) (by simp)
def mT (c:Int->Bool) (ns:List Nd):Prop:=∃ t:Tre,ns=t.flat/\t.ok=true/\c t.kind=true
def rT (c:Int->Bool) (m:Nat) (ns:List Nd):Prop:=∃ ts:List Tre,ns=Tre.br ts/\Tre.pY ts=true/\(∀ t∈ts,c t.kind=true)/\ts.length=m
theorem rT.nil {c:Int->Bool}:rT c 0 []:=⟨[],by simp,by simp,by simp,rfl⟩
theorem mT.n {c:Int->Bool} {ns:List Nd} (h:mT c ns):rT c 1 ns:=by
 obtain⟨t,h1,h2,h3⟩:=h;exact⟨[t],by simp[h1],by simp[h2],by simpa using h3,rfl⟩
theorem rT.snoc {c:Int->Bool} {m:Nat} {ns ns':List Nd} (h:rT c m ns) (k:mT c ns'):rT c (m+1) (ns++ns'):=by
 obtain⟨t,h1,h2,h3⟩:=k;obtain⟨ts,k1,k2,k3,k4⟩:=h;refine⟨ts++[t],by simp[Tre.jb,h1,k1],by simp[Tre.mK,h2,k2],λ x hx=>?_,by simp[k4]⟩;rw[fN,lN]at hx;rcases hx with hx|rfl
 . exact k3 x hx
 . exact h3
theorem mT.low {c c':Int->Bool} {ns:List Nd} (h:mT c ns) (k:∀ x,c x=true->c' x=true):mT c' ns:=by
 obtain⟨t,h1,h2,h3⟩:=h;exact⟨t,h1,h2,k _ h3⟩
section
variable {c:Int->Bool} {k:Int} {tx:aT} {n m a:Int} {f:DK} {ts:List Tre} {ns:List Nd}
theorem kV (ts:List Tre) (V7:ns=Tre.br ts) (h3:Tre.pY ts=true) (hf:eI k=some f) (h1:dv ⟨k,tx,n,m,a,0⟩ f=true) (h2:gS (ts.map Tre.kind) f.kids=true) (hc:c k=true):mT c (node k tx n m a ns):=by
 refine⟨.mk k tx n m a ts,?_,?_,hc⟩
 . rw[Tre.eB,V7]; rfl
 . rw[Tre.ok]; simp only[hf,h1,h2,h3,Bool.and_self]
theorem gH (hf:eI k=some f) (h1:dv ⟨k,tx,n,m,a,0⟩ f=true) (h2:gS [] f.kids=true) (hc:c k=true):mT c (node k tx n m a []) :=
 kV [] (by simp) (by simp) hf h1 h2 hc
theorem uE {c1:mS} {a1:List Nd} (H1:mT c1.is a1) (hf:eI k=some f) (h1:dv ⟨k,tx,n,m,a,0⟩ f=true) (h2:∀ k1,c1.is k1=true->gS [k1] f.kids=true) (hc:c k=true):mT c (node k tx n m a a1):=by
 obtain⟨t1,e1,o1,k1⟩:=H1;exact kV [t1] (by simp[e1]) (by simp[o1]) hf h1 (h2 _ k1) hc
theorem Du {c1 c2:mS} {a1 a2:List Nd} (H1:mT c1.is a1) (H2:mT c2.is a2) (hf:eI k=some f) (h1:dv ⟨k,tx,n,m,a,0⟩ f=true) (h2:∀ k1 k2,c1.is k1=true->c2.is k2=true->gS [k1,k2] f.kids=true) (hc:c k=true):mT c (node k tx n m a (a1++a2)):=by
 obtain⟨t1,e1,o1,k1⟩:=H1;obtain⟨t2,e2,o2,k2⟩:=H2;exact kV [t1,t2] (by simp[e1,e2]) (by simp[o1,o2]) hf h1 (h2 _ _ k1 k2) hc
theorem RF {c1 c2 c3:mS} {a1 a2 a3:List Nd} (H1:mT c1.is a1) (H2:mT c2.is a2) (H3:mT c3.is a3) (hf:eI k=some f) (h1:dv ⟨k,tx,n,m,a,0⟩ f=true) (h2:∀ k1 k2 k3,c1.is k1=true->c2.is k2=true->c3.is k3=true->gS [k1,k2,k3] f.kids=true) (hc:c k=true):mT c (node k tx n m a (a1++a2++a3)):=by
 obtain⟨t1,e1,o1,k1⟩:=H1;obtain⟨t2,e2,o2,k2⟩:=H2;obtain⟨t3,e3,o3,k3⟩:=H3;exact kV [t1,t2,t3] (by simp[e1,e2,e3]) (by simp[o1,o2,o3]) hf h1 (h2 _ _ _ k1 k2 k3) hc
end
theorem zT (k1 k2:Int) (h1:mS.term.is k1=true) (h2:mS.term.is k2=true):gS [k1,k2] [⟨.term,2,2⟩]=true:=pd (by simp[h1,h2]) (by simp) (by simp)
theorem Vd (k1 k2 k3:Int) (h1:mS.term.is k1=true) (h2:mS.term.is k2=true) (h3:mS.term.is k3=true):gS [k1,k2,k3] [⟨.term,3,3⟩]=true:=pd (by simp[h1,h2,h3]) (by simp) (by simp)
section
variable {L:List Tk} {E:Nat}
theorem cH {w:aT} {i j:Nat} {u:Unit} (h:bq L w i=.ok u j):j=i+1/\i<L.length:=by
 have:=cx h;unfold bq at h;split at h
 . rename_i hw;obtain⟨t,ht,_⟩:=wE hw;exact⟨this,(dp.1 ht).1⟩
 . cases h
theorem pg {w:aT} {i:Nat} (h:bB L i w=true):i<L.length:=by
 obtain⟨t,ht,_⟩:=wE h;exact (dp.1 ht).1
theorem kz (hL:∀ t∈L,jM t) {i j:Nat} {x:aT} (h:eK L i=.ok x j):j=i+1/\i<L.length/\jk x=true/\x≠[]:=by
 have:=il h;unfold eK at h;split at h
 . rename_i t ht;split at h
   . rename_i hk;obtain⟨rfl,rfl⟩:=PR.bg h;have hm:=hL t (gA ht);refine⟨this,(dp.1 ht).1,?_,hm.1⟩;unfold jk;rw[hm.2,hk]; simp
   . cases h
 . cases h
theorem po (hL:∀ t∈L,jM t) {i j:Nat} {x:Int} (h:fW L i=.ok x j):j=i+1/\i<L.length/\fJ x=true:=by
 have:=mg h;unfold fW at h;split at h
 . rename_i t ht;split at h
   . rename_i hk;obtain⟨rfl,rfl⟩:=PR.bg h;have hm:=hL t (gA ht);refine⟨this,(dp.1 ht).1,?_⟩;have:=CN hm.1 (HU hm hk);simp[fJ,this.2.2.2]
   . cases h
 . cases h
theorem oE {k a z:Int} {l:List lj}:dv ⟨k,[],0,0,a,z⟩ ⟨false,false,false,l⟩=true:=by simp[dv,fJ]
theorem sK {k a z:Int} {l:List lj} {x:aT} (hx:jk x=true) (h0:x≠[]):dv ⟨k,x,0,0,a,z⟩ ⟨true,false,false,l⟩=true:=by simp[dv,fJ,hx,h0]
theorem Bp {k a z n:Int} {l:List lj} (hn:fJ n=true):dv ⟨k,[],n,0,a,z⟩ ⟨false,true,false,l⟩=true:=by
 have:fJ 0=true:=by simp[fJ]
 simp[dv,hn,this]
theorem YD {k a z n:Int} {l:List lj} {x:aT} (hx:jk x=true) (h0:x≠[]) (hn:fJ n=true):dv ⟨k,x,n,0,a,z⟩ ⟨true,true,false,l⟩=true:=by
 have:fJ 0=true:=by simp[fJ]
 simp[dv,hn,this,hx,h0]
theorem Vf {k a z n m:Int} {l:List lj} {x:aT} (hx:jk x=true) (h0:x≠[]) (hn:fJ n=true) (hm:fJ m=true):dv ⟨k,x,n,m,a,z⟩ ⟨true,true,true,l⟩=true:=by
 simp[dv,hn,hm,hx,h0]
def G1 (L:List Tk) (c:Int->Bool) (i:Nat) (ns:List Nd) (j:Nat):Prop:=mT c ns/\i<j/\j<=L.length
theorem xH (hL:∀ t∈L,jM t) {i j:Nat} {ns:List Nd} (h:iC L E i=.ok ns j):G1 L pe i ns j:=by
 unfold iC at h;split at h
 . rename_i hw;have:=pg hw;obtain⟨rfl,rfl⟩:=PR.bg h;exact⟨gH rfl (Bp rfl) rfl rfl,by omega,by omega⟩
 . split at h
   . rename_i hw;have:=pg hw;obtain⟨rfl,rfl⟩:=PR.bg h;exact⟨gH rfl (Bp rfl) rfl rfl,by omega,by omega⟩
   . split at h
     . obtain⟨_,_,h1,h⟩:=PR.al h;have:=po hL h1;obtain⟨rfl,rfl⟩:=PR.bg h;exact⟨gH rfl (Bp this.2.2) rfl rfl,by omega,by omega⟩
     . obtain⟨_,_,h1,h⟩:=PR.al h;obtain⟨_,_,h2,h⟩:=PR.al h;have:=cH h1; have:=po hL h2;obtain⟨rfl,rfl⟩:=PR.bg h;exact⟨gH rfl (Bp this.2.2) rfl rfl,by omega,by omega⟩
theorem G3 (hL:∀ t∈L,jM t) {i j:Nat} {ns:List Nd} (h:lS L E i=.ok ns j):G1 L (mS.kind 37).is i ns j:=by
 unfold lS at h;obtain⟨_,_,h1,h⟩:=PR.al h;have:=kz hL h1;obtain⟨rfl,rfl⟩:=PR.bg h;exact⟨gH rfl (sK this.2.2.1 this.2.2.2) rfl (by simp[mS.is]),by omega,by omega⟩
theorem HN {c:Int->Bool} {one:Nat->PR (List Nd)} (h1:∀ {i j ns},one i=.ok ns j->G1 L c i ns j):∀ (f:Nat) (acc:List Nd) (m i:Nat) {j:Nat} {ns:List Nd},j6 L one f acc i=.ok ns j->rT c m acc->1<=m->m<=i->i<=L.length->∃ m,rT c m ns/\1<=m/\m<=j/\i<=j/\j<=L.length
 | 0,_,_,_,_,_,h,_,_,_,_=>by cases h
 | f+1,acc,m,i,j,ns,h,ha,hm,Ch,hi=>by
   unfold j6 at h;split at h
   . obtain⟨_,_,h2,h⟩:=PR.al h;obtain⟨k1,k2,k3⟩:=h1 h2;obtain⟨m',q1,q2,q3,q4,q5⟩:=HN h1 f _ (m+1) _ h (ha.snoc k1) (by omega) (by omega) k3;exact⟨m',q1,q2,q3,by omega,q5⟩
   . obtain⟨rfl,rfl⟩:=PR.bg h;exact⟨m,ha,hm,Ch,cN _,hi⟩
theorem By {c:Int->Bool} {one:Nat->PR (List Nd)} (h1:∀ {i j ns},one i=.ok ns j->G1 L c i ns j) {f i j:Nat} {ns:List Nd} (h:gl L one f i=.ok ns j):∃ m,rT c m ns/\1<=m/\m<=j/\i<j/\j<=L.length:=by
 unfold gl at h;obtain⟨_,_,h2,h⟩:=PR.al h;obtain⟨k1,k2,k3⟩:=h1 h2;obtain⟨m',q1,q2,q3,q4,q5⟩:=HN h1 f _ 1 _ h k1.n (by omega) (by omega) k3;exact⟨m',q1,q2,q3,by omega,q5⟩
theorem oq {c:Int->Bool} {ts:List Tre} (h:∀ t∈ts,c t.kind=true):∀ k∈ts.map Tre.kind,c k=true:=λ k hk=>by
 obtain⟨t,ht,rfl⟩:=List.mem_map.1 hk;exact h t ht
theorem HL (hL:∀ t∈L,jM t) (hn:L.length<=900) {f i j:Nat} {ns:List Nd} (h:mI L E f i=.ok ns j):G1 L tI i ns j:=by
 unfold mI at h;split at h
 . obtain⟨_,_,h1,h⟩:=PR.al h;obtain⟨_,_,h2,h⟩:=PR.al h;obtain⟨_,_,h3,h⟩:=PR.al h;obtain⟨_,_,h4,h⟩:=PR.al h;obtain⟨m,⟨ts,e1,o1,k1,l1⟩,q2,q3,q4,q5⟩:=By (λ h=>xH hL h) h1;have:=cH h2; have:=cH h3;obtain⟨⟨t,e2,o2,k2⟩,q6,q7⟩:=xH hL h4;obtain⟨rfl,rfl⟩:=PR.bg h;refine⟨kV (ts++[t]) (by simp[e1,e2,Tre.jb]) (by simp[Tre.mK,o1,o2]) rfl oE ?_ rfl,by omega,q7⟩;refine pd (λ k hk=>?_) (by simp; omega) (by simp; omega);refine oq (c:=pe) (ts:=ts++[t]) (λ t ht=>?_) k hk;simp only[fN,lN]at ht;rcases ht with ht|rfl
   . exact k1 t ht
   . exact k2
 . obtain⟨h1,h2,h3⟩:=xH hL h;exact⟨h1.low λ k hk=>by simp only[pe,tI,dJ]at hk ⊢; omega,h2,h3⟩
theorem PO (hL:∀ t∈L,jM t) (hn:L.length<=900) {f i j:Nat} {ns:List Nd} (h:iw L E f i=.ok ns j):G1 L (mS.kind 5).is i ns j:=by
 unfold iw at h;obtain⟨_,_,h1,h⟩:=PR.al h;obtain⟨_,_,h2,h⟩:=PR.al h;obtain⟨_,_,h3,h⟩:=PR.al h;have a1:=kz hL h1; have:=cH h2; have a3:=HL hL hn h3;obtain⟨b1,b2,b3⟩:=a3;obtain⟨rfl,rfl⟩:=PR.bg h;exact⟨uE (c1:=.type) b1 rfl (sK a1.2.2.1 a1.2.2.2) (λ k hk=>pF hk) (by simp[mS.is]),by omega,b3⟩
theorem PK {lev i:Nat} {k:Int} (h:oM L lev i=some k) (h8:lev≠8):eI k=some ⟨false,false,false,[⟨.term,2,2⟩]⟩/\gu k=true:=by
 unfold oM at h;simp only[h8,if_false]at h
 repeat' split at h
 all_goals first
  | (cases h; exact⟨rfl,rfl⟩)
  | cases h
theorem L0 {i:Nat} {k:Int} (h:oM L 8 i=some k):k=25:=by
 unfold oM at h;simp only[show ¬ (8:Nat)=2 by omega,show ¬ (8:Nat)=3 by omega,show ¬ (8:Nat)=5 by omega,show ¬ (8:Nat)=6 by omega,show ¬ (8:Nat)=7 by omega,if_false,if_true]at h;split at h
 . cases h; rfl
 . cases h
theorem Vl (hL:∀ t∈L,jM t) (hn:L.length<=900):∀ f:Nat,
 (∀ {i j ns},fX L E f i=.ok ns j->G1 L gu i ns j) /\
 (∀ {i at_ acc many j ns},lQ L E f at_ acc many i=.ok ns j->rT gu many acc->1<=many->many<=i->i<=L.length->mT gu ns/\i<=j/\j<=L.length) /\
 (∀ {i j ns},bU L E f i=.ok ns j->G1 L gu i ns j) /\
 (∀ {i lev j ns},eT L E f lev i=.ok ns j->G1 L gu i ns j) /\
 (∀ {i lev left j ns},jS L E f lev left i=.ok ns j->mT gu left->i<=L.length->mT gu ns/\i<=j/\j<=L.length) /\
 (∀ {i j ns},js L E f i=.ok ns j->G1 L gu i ns j) /\
 (∀ {i acc m j ns},hY L E f acc i=.ok ns j->rT pW m acc->1<=m->m<=i->i<=L.length->∃ m,rT pW m ns/\1<=m/\m<=j/\i<=j/\j<=L.length) /\
 (∀ {i j ns},iz L E f i=.ok ns j->G1 L pW i ns j):=by
 intro f
 induction f with
 | zero=>refine⟨?_,?_,?_,?_,?_,?_,?_,?_⟩<;>(intros; rename_i h; first|(rw[fX]at h; cases h; done)|(rw[bU]at h; cases h; done)|(rw[eT]at h; cases h; done)|(rw[js]at h; cases h; done)|(rw[iz]at h; cases h; done)|(simp_all [lQ]; done)|(simp_all [jS]; done)|(simp_all [hY]; done))
 | succ f ih =>
   obtain⟨iT,iS,iF,iO,iP,iA,iG,iR⟩:=ih;refine⟨?_,?_,?_,?_,?_,?_,?_,?_⟩
   . intro i j ns h;rw[fX]at h;obtain⟨_,_,h1,h⟩:=PR.al h;obtain⟨a1,a2,a3⟩:=iF h1;obtain⟨b1,b2,b3⟩:=iS h a1.n (by omega) (by omega) a3;exact⟨b1,by omega,b3⟩
   . intro i at_ acc many j ns h ha hm Ch hi;rw[lQ]at h;split at h
     . obtain⟨_,_,h1,h⟩:=PR.al h;obtain⟨a1,a2,a3⟩:=iF h1;obtain⟨b1,b2,b3⟩:=iS h (ha.snoc a1) (by omega) (by omega) a3;exact⟨b1,by omega,b3⟩
     . obtain⟨rfl,rfl⟩:=PR.bg h;obtain⟨ts,e1,o1,k1,l1⟩:=ha;split
       . rename_i h1
         match ts,l1.trans h1 with
         | [t],_=>exact⟨⟨t,by simp[e1],by simpa using o1,k1 t (by simp)⟩,cN _,hi⟩
       . exact⟨kV ts e1 o1 rfl oE (pd (oq (c:=gu) k1) (by simp; omega) (by simp; omega)) rfl,cN _,hi⟩
   . intro i j ns h;rw[bU]at h;split at h
     . obtain⟨_,_,h1,h⟩:=PR.al h;obtain⟨_,_,h2,h⟩:=PR.al h;obtain⟨_,_,h3,h⟩:=PR.al h;obtain⟨_,_,h4,h⟩:=PR.al h;obtain⟨_,_,h5,h⟩:=PR.al h;obtain⟨a1,a2,a3⟩:=iF h1; have:=cH h2; obtain⟨b1,b2,b3⟩:=iF h3; have:=cH h4; obtain⟨c1,c2,c3⟩:=iF h5;obtain⟨rfl,rfl⟩:=PR.bg h;exact⟨RF (c1:=.term) (c2:=.term) (c3:=.term) a1 b1 c1 rfl oE Vd rfl,by omega,c3⟩
     split at h
     . obtain⟨_,_,h1,h⟩:=PR.al h;obtain⟨_,_,h2,h⟩:=PR.al h;obtain⟨_,_,h3,h⟩:=PR.al h;obtain⟨a1,a2,a3⟩:=iF h1; have:=cH h2; obtain⟨b1,b2,b3⟩:=iF h3;obtain⟨rfl,rfl⟩:=PR.bg h;exact⟨Du (c1:=.term) (c2:=.term) a1 b1 rfl oE zT rfl,by omega,b3⟩
     split at h
     . obtain⟨_,_,h1,h⟩:=PR.al h;obtain⟨_,_,h2,h⟩:=PR.al h;obtain⟨_,_,h3,h⟩:=PR.al h;obtain⟨_,_,h4,h⟩:=PR.al h;obtain⟨_,_,h5,h⟩:=PR.al h;obtain⟨_,_,h6,h⟩:=PR.al h;obtain⟨_,_,h7,h⟩:=PR.al h;have a1:=kz hL h1; have:=cH h2; have a3:=po hL h3; have:=cH h4; have a5:=po hL h5; have:=cH h6; obtain⟨b1,b2,b3⟩:=iF h7;obtain⟨rfl,rfl⟩:=PR.bg h;exact⟨uE (c1:=.term) b1 rfl (Vf a1.2.2.1 a1.2.2.2 a3.2.2 a5.2.2) (λ k hk=>pF hk) rfl,by omega,b3⟩
     split at h
     . obtain⟨_,_,h1,h⟩:=PR.al h;obtain⟨_,_,h2,h⟩:=PR.al h;obtain⟨_,_,h3,h⟩:=PR.al h;obtain⟨_,_,h4,h⟩:=PR.al h;obtain⟨_,_,h5,h⟩:=PR.al h;have a1:=kz hL h1; have:=cH h2; obtain⟨b1,b2,b3⟩:=iF h3; have:=cH h4; obtain⟨c1,c2,c3⟩:=iF h5;obtain⟨rfl,rfl⟩:=PR.bg h;exact⟨Du (c1:=.term) (c2:=.term) b1 c1 rfl (sK a1.2.2.1 a1.2.2.2) zT rfl,by omega,c3⟩
     split at h
     . obtain⟨_,_,h1,h⟩:=PR.al h;obtain⟨_,_,h2,h⟩:=PR.al h;obtain⟨_,_,h3,h⟩:=PR.al h;obtain⟨a1,a2,a3⟩:=iF h1; have:=cH h2; obtain⟨b1,b2,b3⟩:=iF h3;obtain⟨rfl,rfl⟩:=PR.bg h;exact⟨Du (c1:=.term) (c2:=.term) a1 b1 rfl oE zT rfl,by omega,b3⟩
     split at h
     . obtain⟨_,_,h1,h⟩:=PR.al h;obtain⟨_,_,h2,h⟩:=PR.al h;obtain⟨_,_,h3,h⟩:=PR.al h;obtain⟨_,_,h4,h⟩:=PR.al h;obtain⟨_,_,h5,h⟩:=PR.al h;have a1:=kz hL h1; have:=cH h2; have a3:=po hL h3; have:=cH h4; obtain⟨b1,b2,b3⟩:=iF h5;obtain⟨rfl,rfl⟩:=PR.bg h;exact⟨uE (c1:=.term) b1 rfl (YD a1.2.2.1 a1.2.2.2 a3.2.2) (λ k hk=>pF hk) rfl,by omega,b3⟩
     split at h
     . obtain⟨_,_,h1,h⟩:=PR.al h;obtain⟨_,_,h2,h⟩:=PR.al h;obtain⟨_,_,h3,h⟩:=PR.al h;have a1:=kz hL h1; have:=cH h2; obtain⟨b1,b2,b3⟩:=iF h3;obtain⟨rfl,rfl⟩:=PR.bg h;exact⟨uE (c1:=.term) b1 rfl (sK a1.2.2.1 a1.2.2.2) (λ k hk=>pF hk) rfl,by omega,b3⟩
     . exact iO h
   . intro i lev j ns h;rw[eT]at h;split at h
     . exact iA h
     split at h
     . split at h
       . obtain⟨_,_,h1,h⟩:=PR.al h;obtain⟨a1,a2,a3⟩:=iO h1;obtain⟨rfl,rfl⟩:=PR.bg h;exact⟨uE (c1:=.term) a1 rfl oE (λ k hk=>pF hk) rfl,by omega,a3⟩
       . exact iO h
     . obtain⟨_,_,h1,h⟩:=PR.al h;obtain⟨a1,a2,a3⟩:=iO h1;obtain⟨b1,b2,b3⟩:=iP h a1 a3;exact⟨b1,by omega,b3⟩
   . intro i lev left j ns h hl hi;rw[jS]at h;split at h
     . obtain⟨rfl,rfl⟩:=PR.bg h; exact⟨hl,cN _,hi⟩
     rename_i kind hk;split at h
     . rename_i h8;subst h8;have:=L0 hk;subst this;obtain⟨_,_,h1,h⟩:=PR.al h;have a1:=po hL h1;obtain⟨b1,b2,b3⟩:=iP h (uE (c1:=.term) hl rfl (Bp a1.2.2) (λ k hk=>pF hk) rfl) (by omega);exact⟨b1,by omega,b3⟩
     . rename_i h8;obtain⟨f1,f2⟩:=PK hk h8;obtain⟨_,_,h1,h⟩:=PR.al h;obtain⟨a1,a2,a3⟩:=iO h1;have Rp:∀ p,mT gu (node kind [] 0 0 p (left++_)):=λ p=>Du (c1:=.term) (c2:=.term) hl a1 f1 oE zT f2;split at h
       . obtain⟨rfl,rfl⟩:=PR.bg h; exact⟨Rp _,by omega,a3⟩
       . obtain⟨b1,b2,b3⟩:=iP h (Rp _) a3;exact⟨b1,by omega,b3⟩
   . intro i j ns h;rw[js]at h;split at h
     . have:=pg ‹_›;obtain⟨rfl,rfl⟩:=PR.bg h; exact⟨gH rfl oE rfl rfl,by omega,by omega⟩
     split at h
     . have:=pg ‹_›;obtain⟨rfl,rfl⟩:=PR.bg h; exact⟨gH rfl oE rfl rfl,by omega,by omega⟩
     split at h
     . have:=pg ‹_›;obtain⟨rfl,rfl⟩:=PR.bg h; exact⟨gH rfl oE rfl rfl,by omega,by omega⟩
     split at h
     . have:=pg ‹_›;obtain⟨rfl,rfl⟩:=PR.bg h; exact⟨gH rfl oE rfl rfl,by omega,by omega⟩
     split at h
     . obtain⟨_,_,h1,h⟩:=PR.al h;have a1:=kz hL h1;obtain⟨rfl,rfl⟩:=PR.bg h; exact⟨gH rfl (sK a1.2.2.1 a1.2.2.2) rfl rfl,by omega,by omega⟩
     split at h
     . obtain⟨_,_,h1,h⟩:=PR.al h;have a1:=kz hL h1;obtain⟨rfl,rfl⟩:=PR.bg h; exact⟨gH rfl (sK a1.2.2.1 a1.2.2.2) rfl rfl,by omega,by omega⟩
     split at h
     . obtain⟨_,_,h1,h⟩:=PR.al h;obtain⟨_,_,h2,h⟩:=PR.al h;obtain⟨a1,a2,a3⟩:=iT h1; have:=cH h2;obtain⟨rfl,rfl⟩:=PR.bg h; exact⟨a1,by omega,by omega⟩
     split at h
     . obtain⟨_,_,h1,h⟩:=PR.al h;have a1:=po hL h1;obtain⟨rfl,rfl⟩:=PR.bg h; exact⟨gH rfl (Bp a1.2.2) rfl rfl,by omega,by omega⟩
     . obtain⟨_,_,h1,h⟩:=PR.al h;have a1:=kz hL h1;split at h
       . obtain⟨_,_,h2,h⟩:=PR.al h;obtain⟨_,_,h3,h⟩:=PR.al h;obtain⟨_,_,h4,h⟩:=PR.al h;obtain⟨b1,b2,b3⟩:=iR h2;obtain⟨m,⟨ts,e1,o1,k1,l1⟩,q2,q3,q4,q5⟩:=iG h3 b1.n (by omega) (by omega) b3;have:=cH h4;obtain⟨rfl,rfl⟩:=PR.bg h;exact⟨kV ts e1 o1 rfl (sK a1.2.2.1 a1.2.2.2) (pd (oq (c:=pW) k1) (by simp; omega) (by simp; omega)) rfl,by omega,by omega⟩
       . obtain⟨rfl,rfl⟩:=PR.bg h; exact⟨gH rfl (sK a1.2.2.1 a1.2.2.2) rfl rfl,by omega,by omega⟩
   . intro i acc m j ns h ha hm Ch hi;rw[hY]at h;split at h
     . obtain⟨_,_,h1,h⟩:=PR.al h;obtain⟨a1,a2,a3⟩:=iR h1;obtain⟨m',q1,q2,q3,q4,q5⟩:=iG h (ha.snoc a1) (by omega) (by omega) a3;exact⟨m',q1,q2,q3,by omega,q5⟩
     . obtain⟨rfl,rfl⟩:=PR.bg h; exact⟨m,ha,hm,Ch,cN _,hi⟩
   . intro i j ns h;rw[iz]at h;split at h
     . obtain⟨_,_,h1,h⟩:=PR.al h;obtain⟨_,_,h2,h⟩:=PR.al h;obtain⟨_,_,h3,h⟩:=PR.al h;obtain⟨_,_,h4,h⟩:=PR.al h;have:=cH h1;obtain⟨m,⟨ts,e1,o1,k1,l1⟩,q2,q3,q4,q5⟩:=By (λ h=>G3 hL h) h2;have:=cH h3;obtain⟨⟨t,e2,o2,k2⟩,q6,q7⟩:=iF h4;obtain⟨rfl,rfl⟩:=PR.bg h;refine⟨kV (ts++[t]) (by simp[e1,e2,Tre.jb]) (by simp[Tre.mK,o1,o2]) rfl oE ?_ rfl,by omega,q7⟩;rw[List.map_append,List.map_singleton];rw[pc (oq (c:=(mS.kind 37).is) k1) (by simp; omega) (by simp; omega) rfl];exact pF k2
     split at h
     . obtain⟨_,_,h1,h⟩:=PR.al h;obtain⟨_,_,h2,h⟩:=PR.al h;obtain⟨_,_,h3,h⟩:=PR.al h;obtain⟨_,_,h4,h⟩:=PR.al h;obtain⟨_,_,h5,h⟩:=PR.al h;obtain⟨_,_,h6,h⟩:=PR.al h;obtain⟨_,_,h7,h⟩:=PR.al h;obtain⟨_,_,h8,h⟩:=PR.al h;have:=cH h1; obtain⟨a1,a2,a3⟩:=iF h2; have:=cH h3; have:=cH h4; obtain⟨b1,b2,b3⟩:=G3 hL h5; have:=cH h6; obtain⟨c1,c2,c3⟩:=iF h7; have:=cH h8;obtain⟨rfl,rfl⟩:=PR.bg h;refine⟨RF (c1:=.term) (c2:=.kind 37) (c3:=.term) a1 b1 c1 rfl oE (λ k1 k2 k3 g1 g2 g3=>?_) rfl,by omega,by omega⟩;rw[show [k1,k2,k3]=[k1]++[k2,k3] from rfl,pc (by simpa using g1) (by simp) (by simp) rfl,show [k2,k3]=[k2]++[k3] from rfl,pc (by simpa using g2) (by simp) (by simp) rfl];exact pF g3
     . obtain⟨a1,a2,a3⟩:=iT h;exact⟨a1.low λ k hk=>by simp only[gu,pW,dJ]at hk ⊢; omega,a2,a3⟩
theorem Bx (hL:∀ t∈L,jM t) (hn:L.length<=900) {f i j:Nat} {ns:List Nd} (h:eJ L E f i=.ok ns j):G1 L om i ns j:=by
 unfold eJ at h;split at h
 . obtain⟨_,_,h1,h⟩:=PR.al h;obtain⟨_,_,h2,h⟩:=PR.al h;obtain⟨_,_,h3,h⟩:=PR.al h;obtain⟨_,_,h4,h⟩:=PR.al h;have a1:=kz hL h1; have:=cH h2; obtain⟨b1,b2,b3⟩:=HL hL hn h3; have:=cH h4;obtain⟨rfl,rfl⟩:=PR.bg h;exact⟨uE (c1:=.type) b1 rfl (sK a1.2.2.1 a1.2.2.2) (λ k hk=>pF hk) rfl,by omega,by omega⟩
 . obtain⟨k,p,h0,h⟩:=PR.al h;obtain⟨_,_,h1,h⟩:=PR.al h;obtain⟨_,_,h2,h⟩:=PR.al h;obtain⟨_,_,h3,h⟩:=PR.al h;obtain⟨_,_,h4,h⟩:=PR.al h;obtain⟨_,_,h5,h⟩:=PR.al h;obtain⟨_,_,h6,h⟩:=PR.al h;obtain⟨_,_,h7,h⟩:=PR.al h;obtain⟨_,_,h8,h⟩:=PR.al h;obtain⟨_,_,h9,hz⟩:=PR.al h;have hp:p=i+1/\(k=3\/k=4):=by
    split at h0
    . have:=PR.bg h0; omega
    . obtain⟨_,_,g1,g2⟩:=PR.al h0;have:=cx g1;have:=PR.bg g2;omega
   obtain⟨rfl,hk⟩:=hp;have Vm:∀ {a:List Nd} {j q:Nat},j<=L.length->(if bB L j gE=true then (PR.ok [] j:PR (List Nd)) else gl L (iw L E f) f j)=.ok a q->∃ m,rT (mS.kind 5).is m a/\m<=q/\j<=q/\q<=L.length:=λ hj h=>by
    split at h
    . obtain⟨rfl,rfl⟩:=PR.bg h; exact⟨0,.nil,by omega,cN _,hj⟩
    . obtain⟨m,q1,q2,q3,q4,q5⟩:=By (λ h=>PO hL hn h) h;exact⟨m,q1,q3,by omega,q5⟩
   have a1:=kz hL h1; have:=cH h2; obtain⟨m,⟨ts,e1,o1,k1,l1⟩,q3,q4,q5⟩:=Vm (by omega) h3; have:=cH h4; have:=cH h5; obtain⟨⟨t2,e2,o2,k2⟩,b2,b3⟩:=xH hL h6; have:=cH h7; obtain⟨⟨t3,e3,o3,k3⟩,c2,c3⟩:=(Vl hL hn f).1 h8; have:=cH h9;obtain⟨rfl,rfl⟩:=PR.bg hz;have hf:eI k=some ⟨true,false,false,[⟨.kind 5,0,900⟩,⟨.base,1,1⟩,⟨.term,1,1⟩]⟩:=by
    rcases hk with rfl|rfl<;>rfl
   refine⟨kV (ts++[t2,t3]) (by simp[e1,e2,e3,Tre.jb]) (by simp[Tre.mK,o1,o2,o3]) hf (sK a1.2.2.1 a1.2.2.2) ?_ (by rcases hk with rfl|rfl<;>rfl),by omega,by omega⟩
   rw[List.map_append];rw[pc (oq (c:=(mS.kind 5).is) k1) (by simp) (by simp; omega) rfl];rw[show [t2,t3].map Tre.kind=[t2.kind]++[t3.kind] from rfl,pc (λ k hk=>by simp only[lN]at hk; subst hk; exact k2) (by simp) (by simp) rfl];exact pF k3
end
theorem OB {l:List Nd} {m:Nat} (h:rT om m l) (hm:m<=900):fC (node 1 [] 0 0 0 l)=if 900<(node 1 [] 0 0 0 l).length\/ko (node 1 [] 0 0 0 l)=true then 5 else 0:=by
 obtain⟨ts,e1,o1,k1,l1⟩:=h;have En:node 1 [] 0 0 0 l=(Tre.mk 1 [] 0 0 0 ts).flat:=by rw[Tre.eB,e1]; rfl
 have cw:(Tre.mk 1 [] 0 0 0 ts).ok=true:=by
  rw[Tre.ok];have hf:eI 1=some ⟨false,false,false,[⟨.item,0,900⟩]⟩:=rfl;have:=pd (c:=.item) (lo:=0) (hi:=900) (oq (c:=om) k1) (by simp) (by simp; omega);simp only[hf,oE,this,o1,Bool.and_self]
 rw[En]
 by_cases h9:900<(Tre.mk 1 [] 0 0 0 ts).flat.length
 . rw[if_pos (.inl h9)]; unfold fC; rw[if_pos h9]
 . rw[vW _ h9];unfold yY;rw[if_neg (by simp[Tre.kind,cw]),yp]
   by_cases hg:60<(Tre.mk 1 [] 0 0 0 ts).deep\/24<(Tre.mk 1 [] 0 0 0 ts).kids.length
   . rw[if_pos hg,if_pos (.inr (by simpa using hg))]
   . rw[if_neg hg,if_neg (λ h=>hg (by rcases h with h|h; exact absurd h h9; simpa using h))]
end Go.Rip
namespace Go.Rip
open Go.Proofs Go.RowKit
theorem JH {s:aT} (h:jk s=true):s.length<=12:=by
 unfold jk at h;rw[dJ]at h;rcases sB h with h|h|h|h
 . exact h.2.2.1
 . omega
 . omega
 . omega
theorem wS:∀ (N:Nat) (ts:List Tre),(Tre.br ts).length<=N->Tre.pY ts=true->∀ x∈Tre.br ts,x.text.length<=12
 | _,[],_,_=>by simp
 | 0,t::ts,hN,_=>by have:=t.dU; simp only[Tre.cW,eG]at hN; omega
 | N+1,.mk k tx n m a ks::ts,hN,ho=>by
   simp only[Tre.cW,Tre.eB,eG,lM]at hN;rw[Tre.ry,Tre.ok]at ho;simp only[bV]at ho;obtain⟨⟨h1,h2⟩,h3⟩:=ho;have e1:=wS N ks (by omega) h2;have e2:=wS N ts (by omega) h3;intro x hx;simp only[Tre.cW,Tre.eB,gY,fe,fN]at hx;rcases hx with rfl|hx|hx
   . split at h1
     . rename_i f hf;simp only[dv,bV]at h1;obtain⟨⟨⟨⟨⟨⟨g1,g2⟩,g3⟩,g4⟩,g5⟩,g6⟩,g7⟩:=h1;cases Hp:f.text with
       | true =>
         rw[Hp]at g2;exact JH (by simpa using g2)
       | false =>
         rw[Hp]at g1;have:tx=[]:=by simpa using g1
         simp[this]
     . cases h1
   . exact e1 x hx
   . exact e2 x hx
end Go.Rip
namespace Go.Rip
open Go.Proofs Go.RowKit
theorem Ff (U:St) (l:List Nd):mY U (cZ l) l:=by
 unfold cZ;split
 . rename_i h; subst h; exact .inl (.inl ⟨rfl,rfl⟩)
 . exact .inl (.inr ⟨_,rfl⟩)
theorem Mo (l1 l2:List Nd) (h1:l1.length<=1000000) (h2:l2.length<=1000000):Pure K 22 [.agg [cZ l1],.agg [cZ l2]] (.bool (decide (l1=l2))):=by
 refine Pure.of (by simp[bG,closed,pE]) rfl (λ U=>rfl) λ R hR=>?_;refine P0 ?_;unfold RV;rw[fY rfl];intro b1 hb1;rw[fY rfl];intro b2 hb2;have m1:((bK ⟨.e,0⟩).new b1 (.box (au (.agg [cZ l1])))).box b1=some [cZ l1]:=aI;have WA:=(bC hb2 (x:=.box (au (.agg [cZ l2])))).bf m1;have m2:(((bK ⟨.e,0⟩).new b1 (.box (au (.agg [cZ l1])))).new b2 (.box (au (.agg [cZ l2])))).box b2=some [cZ l2]:=aI;generalize ((bK _).new b1 _).new b2 _=U at *;simp only[aN,ak,cq];refine gq WA rfl ?_;refine gq m2 rfl ?_;exact Tw (Ff _ _) (Ff _ _) h1 h2 (aq.mk (hR _))
end Go.Rip
