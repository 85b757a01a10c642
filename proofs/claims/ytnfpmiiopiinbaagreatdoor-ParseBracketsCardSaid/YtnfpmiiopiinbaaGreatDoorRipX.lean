/- Lemmas for the proof: no conditions. -/
import Derived.Test.YtnfpmiiopiinbaaGreatDoorRipZz
import Derived.Test.YtnfpmiiopiinbaaGreatDoorRipK
import Derived.Test.YtnfpmiiopiinbaaGreatDoorRipI
import Derived.Test.YtnfpmiiopiinbaaGreatDoorRipS
import Derived.Test.YtnfpmiiopiinbaaGreatDoorRipYb
import Derived.Test.YtnfpmiiopiinbaaGreatDoorRipAw
set_option linter.unusedVariables false
set_option linter.unusedSimpArgs false
set_option linter.loopingSimpArgs false
namespace Go.Rip
theorem O5 {p:Int->Bool}:∀ {l:List Int},(∀ x∈l,p x=true)->l.takeWhile p=l
 | [],_=>rfl
 | a::l,h=>by rw[mV,if_pos (h a (by simp)),O5 λ x hx=>h x (by simp[hx])]
theorem tw {s:mv} {ss:List mv} {la rest:List Int} (h:∀ k∈la,s.c.is k=true) (h1:s.least<=la.length) (h2:la.length<=s.o6) (h3:rest.length=(ss.map (·.least)).sum):ep (la++rest) (s::ss)=ep rest ss:=by
 have htw:la.takeWhile s.c.is=la:=O5 h;have aiP:min ((la++rest).length-(ss.map (·.least)).sum) s.o6=la.length:=by
  rw[cO]; omega
 rw[ep];simp only[aiP,List.take_left,htw,List.drop_left];rw[if_neg (by omega)]
theorem tz {c:jv} {lo hi:Nat} {ks:List Int} (h:∀ k∈ks,c.is k=true) (h1:lo<=ks.length) (h2:ks.length<=hi):ep ks [⟨c,lo,hi⟩]=true:=by
 have:=tw (s:=⟨c,lo,hi⟩) (ss:=[]) (rest:=[]) h h1 h2 rfl;rw[gx]at this;rw[this]; rfl
theorem tV {c:jv} {k:Int} (h:c.is k=true):ep [k] [⟨c,1,1⟩]=true:=tz (by simpa using h) (by simp) (by simp)
def qE (c:Int->Bool) (ns:List Nd):Prop:=∃ t:Tre,ns=t.flat/\t.ok=true/\c t.kind=true
def s8 (c:Int->Bool) (m:Nat) (ns:List Nd):Prop:=∃ ts:List Tre,ns=Tre.bu ts/\Tre.uo ts=true/\(∀ t∈ts,c t.kind=true)/\ts.length=m
theorem s8.nil {c:Int->Bool}:s8 c 0 []:=⟨[],by simp,by simp,by simp,rfl⟩
theorem qE.n {c:Int->Bool} {ns:List Nd} (h:qE c ns):s8 c 1 ns:=by
 obtain⟨t,h1,h2,h3⟩:=h;exact⟨[t],by simp[h1],by simp[h2],by simpa using h3,rfl⟩
theorem s8.snoc {c:Int->Bool} {m:Nat} {ns Ie:List Nd} (h:s8 c m ns) (k:qE c Ie):s8 c (m+1) (ns++Ie):=by
 obtain⟨t,h1,h2,h3⟩:=k;obtain⟨ts,k1,k2,k3,k4⟩:=h;refine⟨ts++[t],by simp[Tre.fy,h1,k1],by simp[Tre.sJ,h2,k2],λ x hx=>?_,by simp[k4]⟩;rw[fT,kn]at hx;rcases hx with hx|rfl
 . exact k3 x hx
 . exact h3
theorem qE.low {c c':Int->Bool} {ns:List Nd} (h:qE c ns) (k:∀ x,c x=true->c' x=true):qE c' ns:=by
 obtain⟨t,h1,h2,h3⟩:=h;exact⟨t,h1,h2,k _ h3⟩
section
variable {c:Int->Bool} {k:Int} {tx:aG} {n m a:Int} {f:gS} {ts:List Tre} {ns:List Nd}
theorem oY (ts:List Tre) (SF:ns=Tre.bu ts) (h3:Tre.uo ts=true) (hf:bG k=some f) (h1:eF ⟨k,tx,n,m,a,0⟩ f=true) (h2:ep (ts.map Tre.kind) f.kids=true) (hc:c k=true):qE c (node k tx n m a ns):=by
 refine⟨.mk k tx n m a ts,?_,?_,hc⟩
 . rw[Tre.dZ,SF]; rfl
 . rw[Tre.ok]; simp only[hf,h1,h2,h3,Bool.and_self]
theorem kF (hf:bG k=some f) (h1:eF ⟨k,tx,n,m,a,0⟩ f=true) (h2:ep [] f.kids=true) (hc:c k=true):qE c (node k tx n m a []) :=
 oY [] (by simp) (by simp) hf h1 h2 hc
theorem y4 {c1:jv} {a1:List Nd} (H1:qE c1.is a1) (hf:bG k=some f) (h1:eF ⟨k,tx,n,m,a,0⟩ f=true) (h2:∀ k1,c1.is k1=true->ep [k1] f.kids=true) (hc:c k=true):qE c (node k tx n m a a1):=by
 obtain⟨t1,e1,o1,k1⟩:=H1;exact oY [t1] (by simp[e1]) (by simp[o1]) hf h1 (h2 _ k1) hc
theorem Ji {c1 c2:jv} {a1 a2:List Nd} (H1:qE c1.is a1) (H2:qE c2.is a2) (hf:bG k=some f) (h1:eF ⟨k,tx,n,m,a,0⟩ f=true) (h2:∀ k1 k2,c1.is k1=true->c2.is k2=true->ep [k1,k2] f.kids=true) (hc:c k=true):qE c (node k tx n m a (a1++a2)):=by
 obtain⟨t1,e1,o1,k1⟩:=H1;obtain⟨t2,e2,o2,k2⟩:=H2;exact oY [t1,t2] (by simp[e1,e2]) (by simp[o1,o2]) hf h1 (h2 _ _ k1 k2) hc
theorem ZZ {c1 c2 c3:jv} {a1 a2 a3:List Nd} (H1:qE c1.is a1) (H2:qE c2.is a2) (H3:qE c3.is a3) (hf:bG k=some f) (h1:eF ⟨k,tx,n,m,a,0⟩ f=true) (h2:∀ k1 k2 k3,c1.is k1=true->c2.is k2=true->c3.is k3=true->ep [k1,k2,k3] f.kids=true) (hc:c k=true):qE c (node k tx n m a (a1++a2++a3)):=by
 obtain⟨t1,e1,o1,k1⟩:=H1;obtain⟨t2,e2,o2,k2⟩:=H2;obtain⟨t3,e3,o3,k3⟩:=H3;exact oY [t1,t2,t3] (by simp[e1,e2,e3]) (by simp[o1,o2,o3]) hf h1 (h2 _ _ _ k1 k2 k3) hc
end
theorem Er (k1 k2:Int) (h1:jv.term.is k1=true) (h2:jv.term.is k2=true):ep [k1,k2] [⟨.term,2,2⟩]=true:=tz (by simp[h1,h2]) (by simp) (by simp)
theorem aee (k1 k2 k3:Int) (h1:jv.term.is k1=true) (h2:jv.term.is k2=true) (h3:jv.term.is k3=true):ep [k1,k2,k3] [⟨.term,3,3⟩]=true:=tz (by simp[h1,h2,h3]) (by simp) (by simp)
section
variable {L:List Tk} {E:Nat}
theorem dD {w:aG} {i j:Nat} {u:Unit} (h:bM L w i=.ok u j):j=i+1/\i<L.length:=by
 have:=cT h;unfold bM at h;split at h
 . rename_i hw;obtain⟨t,ht,_⟩:=wF hw;exact⟨this,(dp.1 ht).1⟩
 . cases h
theorem tC {w:aG} {i:Nat} (h:bm L i w=true):i<L.length:=by
 obtain⟨t,ht,_⟩:=wF h;exact (dp.1 ht).1
theorem ow (hL:∀ t∈L,kB t) {i j:Nat} {x:aG} (h:gX L i=.ok x j):j=i+1/\i<L.length/\kH x=true/\x≠[]:=by
 have:=kG h;unfold gX at h;split at h
 . rename_i t ht;split at h
   . rename_i hk;obtain⟨rfl,rfl⟩:=PR.aW h;have hm:=hL t (gw ht);refine⟨this,(dp.1 ht).1,?_,hm.1⟩;unfold kH;rw[hm.2,hk]; simp
   . cases h
 . cases h
theorem tF (hL:∀ t∈L,kB t) {i j:Nat} {x:Int} (h:jo L i=.ok x j):j=i+1/\i<L.length/\dV x=true:=by
 have:=o7 h;unfold jo at h;split at h
 . rename_i t ht;split at h
   . rename_i hk;obtain⟨rfl,rfl⟩:=PR.aW h;have hm:=hL t (gw ht);refine⟨this,(dp.1 ht).1,?_⟩;have:=wQ hm.1 (Gz hm hk);simp[dV,this.2.2.2]
   . cases h
 . cases h
theorem sw {k a z:Int} {l:List mv}:eF ⟨k,[],0,0,a,z⟩ ⟨false,false,false,l⟩=true:=by simp[eF,dV]
theorem xj {k a z:Int} {l:List mv} {x:aG} (hx:kH x=true) (h0:x≠[]):eF ⟨k,x,0,0,a,z⟩ ⟨true,false,false,l⟩=true:=by simp[eF,dV,hx,h0]
theorem Gc {k a z n:Int} {l:List mv} (hn:dV n=true):eF ⟨k,[],n,0,a,z⟩ ⟨false,true,false,l⟩=true:=by
 have:dV 0=true:=by simp[dV]
 simp[eF,hn,this]
theorem agU {k a z n:Int} {l:List mv} {x:aG} (hx:kH x=true) (h0:x≠[]) (hn:dV n=true):eF ⟨k,x,n,0,a,z⟩ ⟨true,true,false,l⟩=true:=by
 have:dV 0=true:=by simp[dV]
 simp[eF,hn,this,hx,h0]
theorem aeg {k a z n m:Int} {l:List mv} {x:aG} (hx:kH x=true) (h0:x≠[]) (hn:dV n=true) (hm:dV m=true):eF ⟨k,x,n,m,a,z⟩ ⟨true,true,true,l⟩=true:=by
 simp[eF,hn,hm,hx,h0]
def G1 (L:List Tk) (c:Int->Bool) (i:Nat) (ns:List Nd) (j:Nat):Prop:=qE c ns/\i<j/\j<=L.length
theorem B4 (hL:∀ t∈L,kB t) {i j:Nat} {ns:List Nd} (h:gn L E i=.ok ns j):G1 L pA i ns j:=by
 unfold gn at h;split at h
 . rename_i hw;have:=tC hw;obtain⟨rfl,rfl⟩:=PR.aW h;exact⟨kF rfl (Gc rfl) rfl rfl,by omega,by omega⟩
 . split at h
   . rename_i hw;have:=tC hw;obtain⟨rfl,rfl⟩:=PR.aW h;exact⟨kF rfl (Gc rfl) rfl rfl,by omega,by omega⟩
   . split at h
     . obtain⟨_,_,h1,h⟩:=PR.ai h;have:=tF hL h1;obtain⟨rfl,rfl⟩:=PR.aW h;exact⟨kF rfl (Gc this.2.2) rfl rfl,by omega,by omega⟩
     . obtain⟨_,_,h1,h⟩:=PR.ai h;obtain⟨_,_,h2,h⟩:=PR.ai h;have:=dD h1; have:=tF hL h2;obtain⟨rfl,rfl⟩:=PR.aW h;exact⟨kF rfl (Gc this.2.2) rfl rfl,by omega,by omega⟩
theorem Nz (hL:∀ t∈L,kB t) {i j:Nat} {ns:List Nd} (h:lS L E i=.ok ns j):G1 L (jv.kind 37).is i ns j:=by
 unfold lS at h;obtain⟨_,_,h1,h⟩:=PR.ai h;have:=ow hL h1;obtain⟨rfl,rfl⟩:=PR.aW h;exact⟨kF rfl (xj this.2.2.1 this.2.2.2) rfl (by simp[jv.is]),by omega,by omega⟩
theorem Oz {c:Int->Bool} {one:Nat->PR (List Nd)} (h1:∀ {i j ns},one i=.ok ns j->G1 L c i ns j):∀ (f:Nat) (acc:List Nd) (m i:Nat) {j:Nat} {ns:List Nd},mO L one f acc i=.ok ns j->s8 c m acc->1<=m->m<=i->i<=L.length->∃ m,s8 c m ns/\1<=m/\m<=j/\i<=j/\j<=L.length
 | 0,_,_,_,_,_,h,_,_,_,_=>by cases h
 | f+1,acc,m,i,j,ns,h,ha,hm,KB,hi=>by
   unfold mO at h;split at h
   . obtain⟨_,_,h2,h⟩:=PR.ai h;obtain⟨k1,k2,k3⟩:=h1 h2;obtain⟨m',q1,q2,q3,q4,q5⟩:=Oz h1 f _ (m+1) _ h (ha.snoc k1) (by omega) (by omega) k3;exact⟨m',q1,q2,q3,by omega,q5⟩
   . obtain⟨rfl,rfl⟩:=PR.aW h;exact⟨m,ha,hm,KB,bX _,hi⟩
theorem Gr {c:Int->Bool} {one:Nat->PR (List Nd)} (h1:∀ {i j ns},one i=.ok ns j->G1 L c i ns j) {f i j:Nat} {ns:List Nd} (h:jW L one f i=.ok ns j):∃ m,s8 c m ns/\1<=m/\m<=j/\i<j/\j<=L.length:=by
 unfold jW at h;obtain⟨_,_,h2,h⟩:=PR.ai h;obtain⟨k1,k2,k3⟩:=h1 h2;obtain⟨m',q1,q2,q3,q4,q5⟩:=Oz h1 f _ 1 _ h k1.n (by omega) (by omega) k3;exact⟨m',q1,q2,q3,by omega,q5⟩
theorem sb {c:Int->Bool} {ts:List Tre} (h:∀ t∈ts,c t.kind=true):∀ k∈ts.map Tre.kind,c k=true:=λ k hk=>by
 obtain⟨t,ht,rfl⟩:=List.mem_map.1 hk;exact h t ht
theorem Ot (hL:∀ t∈L,kB t) (hn:L.length<=900) {f i j:Nat} {ns:List Nd} (h:jI L E f i=.ok ns j):G1 L qw i ns j:=by
 unfold jI at h;split at h
 . obtain⟨_,_,h1,h⟩:=PR.ai h;obtain⟨_,_,h2,h⟩:=PR.ai h;obtain⟨_,_,h3,h⟩:=PR.ai h;obtain⟨_,_,h4,h⟩:=PR.ai h;obtain⟨m,⟨ts,e1,o1,k1,l1⟩,q2,q3,q4,q5⟩:=Gr (λ h=>B4 hL h) h1;have:=dD h2; have:=dD h3;obtain⟨⟨t,e2,o2,k2⟩,q6,q7⟩:=B4 hL h4;obtain⟨rfl,rfl⟩:=PR.aW h;refine⟨oY (ts++[t]) (by simp[e1,e2,Tre.fy]) (by simp[Tre.sJ,o1,o2]) rfl sw ?_ rfl,by omega,q7⟩;refine tz (λ k hk=>?_) (by simp; omega) (by simp; omega);refine sb (c:=pA) (ts:=ts++[t]) (λ t ht=>?_) k hk;simp only[fT,kn]at ht;rcases ht with ht|rfl
   . exact k1 t ht
   . exact k2
 . obtain⟨h1,h2,h3⟩:=B4 hL h;exact⟨h1.low λ k hk=>by simp only[pA,qw,eg]at hk ⊢; omega,h2,h3⟩
theorem XW (hL:∀ t∈L,kB t) (hn:L.length<=900) {f i j:Nat} {ns:List Nd} (h:j0 L E f i=.ok ns j):G1 L (jv.kind 5).is i ns j:=by
 unfold j0 at h;obtain⟨_,_,h1,h⟩:=PR.ai h;obtain⟨_,_,h2,h⟩:=PR.ai h;obtain⟨_,_,h3,h⟩:=PR.ai h;have a1:=ow hL h1; have:=dD h2; have a3:=Ot hL hn h3;obtain⟨b1,b2,b3⟩:=a3;obtain⟨rfl,rfl⟩:=PR.aW h;exact⟨y4 (c1:=.type) b1 rfl (xj a1.2.2.1 a1.2.2.2) (λ k hk=>tV hk) (by simp[jv.is]),by omega,b3⟩
theorem XR {lev i:Nat} {k:Int} (h:ox L lev i=some k) (h8:lev≠8):bG k=some ⟨false,false,false,[⟨.term,2,2⟩]⟩/\cE k=true:=by
 unfold ox at h;simp only[h8,if_false]at h
 repeat' split at h
 all_goals first
  | (cases h; exact⟨rfl,rfl⟩)
  | cases h
theorem Tv {i:Nat} {k:Int} (h:ox L 8 i=some k):k=25:=by
 unfold ox at h;simp only[show ¬ (8:Nat)=2 by omega,show ¬ (8:Nat)=3 by omega,show ¬ (8:Nat)=5 by omega,show ¬ (8:Nat)=6 by omega,show ¬ (8:Nat)=7 by omega,if_false,if_true]at h;split at h
 . cases h; rfl
 . cases h
theorem aeo (hL:∀ t∈L,kB t) (hn:L.length<=900):∀ f:Nat,
 (∀ {i j ns},ig L E f i=.ok ns j->G1 L cE i ns j) /\
 (∀ {i at_ acc many j ns},nN L E f at_ acc many i=.ok ns j->s8 cE many acc->1<=many->many<=i->i<=L.length->qE cE ns/\i<=j/\j<=L.length) /\
 (∀ {i j ns},bF L E f i=.ok ns j->G1 L cE i ns j) /\
 (∀ {i lev j ns},eC L E f lev i=.ok ns j->G1 L cE i ns j) /\
 (∀ {i lev left j ns},lK L E f lev left i=.ok ns j->qE cE left->i<=L.length->qE cE ns/\i<=j/\j<=L.length) /\
 (∀ {i j ns},gI L E f i=.ok ns j->G1 L cE i ns j) /\
 (∀ {i acc m j ns},kO L E f acc i=.ok ns j->s8 oo m acc->1<=m->m<=i->i<=L.length->∃ m,s8 oo m ns/\1<=m/\m<=j/\i<=j/\j<=L.length) /\
 (∀ {i j ns},js L E f i=.ok ns j->G1 L oo i ns j):=by
 intro f
 induction f with
 | zero=>refine⟨?_,?_,?_,?_,?_,?_,?_,?_⟩<;>(intros; rename_i h; first|(rw[ig]at h; cases h; done)|(rw[bF]at h; cases h; done)|(rw[eC]at h; cases h; done)|(rw[gI]at h; cases h; done)|(rw[js]at h; cases h; done)|(simp_all [nN]; done)|(simp_all [lK]; done)|(simp_all [kO]; done))
 | succ f ih =>
   obtain⟨iT,iS,iF,iO,iP,iA,iG,iR⟩:=ih;refine⟨?_,?_,?_,?_,?_,?_,?_,?_⟩
   . intro i j ns h;rw[ig]at h;obtain⟨_,_,h1,h⟩:=PR.ai h;obtain⟨a1,a2,a3⟩:=iF h1;obtain⟨b1,b2,b3⟩:=iS h a1.n (by omega) (by omega) a3;exact⟨b1,by omega,b3⟩
   . intro i at_ acc many j ns h ha hm KB hi;rw[nN]at h;split at h
     . obtain⟨_,_,h1,h⟩:=PR.ai h;obtain⟨a1,a2,a3⟩:=iF h1;obtain⟨b1,b2,b3⟩:=iS h (ha.snoc a1) (by omega) (by omega) a3;exact⟨b1,by omega,b3⟩
     . obtain⟨rfl,rfl⟩:=PR.aW h;obtain⟨ts,e1,o1,k1,l1⟩:=ha;split
       . rename_i h1
         match ts,l1.trans h1 with
         | [t],_=>exact⟨⟨t,by simp[e1],by simpa using o1,k1 t (by simp)⟩,bX _,hi⟩
       . exact⟨oY ts e1 o1 rfl sw (tz (sb (c:=cE) k1) (by simp; omega) (by simp; omega)) rfl,bX _,hi⟩
   . intro i j ns h;rw[bF]at h;split at h
     . obtain⟨_,_,h1,h⟩:=PR.ai h;obtain⟨_,_,h2,h⟩:=PR.ai h;obtain⟨_,_,h3,h⟩:=PR.ai h;obtain⟨_,_,h4,h⟩:=PR.ai h;obtain⟨_,_,h5,h⟩:=PR.ai h;obtain⟨a1,a2,a3⟩:=iF h1; have:=dD h2; obtain⟨b1,b2,b3⟩:=iF h3; have:=dD h4; obtain⟨c1,c2,c3⟩:=iF h5;obtain⟨rfl,rfl⟩:=PR.aW h;exact⟨ZZ (c1:=.term) (c2:=.term) (c3:=.term) a1 b1 c1 rfl sw aee rfl,by omega,c3⟩
     split at h
     . obtain⟨_,_,h1,h⟩:=PR.ai h;obtain⟨_,_,h2,h⟩:=PR.ai h;obtain⟨_,_,h3,h⟩:=PR.ai h;obtain⟨a1,a2,a3⟩:=iF h1; have:=dD h2; obtain⟨b1,b2,b3⟩:=iF h3;obtain⟨rfl,rfl⟩:=PR.aW h;exact⟨Ji (c1:=.term) (c2:=.term) a1 b1 rfl sw Er rfl,by omega,b3⟩
     split at h
     . obtain⟨_,_,h1,h⟩:=PR.ai h;obtain⟨_,_,h2,h⟩:=PR.ai h;obtain⟨_,_,h3,h⟩:=PR.ai h;obtain⟨_,_,h4,h⟩:=PR.ai h;obtain⟨_,_,h5,h⟩:=PR.ai h;obtain⟨_,_,h6,h⟩:=PR.ai h;obtain⟨_,_,h7,h⟩:=PR.ai h;have a1:=ow hL h1; have:=dD h2; have a3:=tF hL h3; have:=dD h4; have a5:=tF hL h5; have:=dD h6; obtain⟨b1,b2,b3⟩:=iF h7;obtain⟨rfl,rfl⟩:=PR.aW h;exact⟨y4 (c1:=.term) b1 rfl (aeg a1.2.2.1 a1.2.2.2 a3.2.2 a5.2.2) (λ k hk=>tV hk) rfl,by omega,b3⟩
     split at h
     . obtain⟨_,_,h1,h⟩:=PR.ai h;obtain⟨_,_,h2,h⟩:=PR.ai h;obtain⟨_,_,h3,h⟩:=PR.ai h;obtain⟨_,_,h4,h⟩:=PR.ai h;obtain⟨_,_,h5,h⟩:=PR.ai h;have a1:=ow hL h1; have:=dD h2; obtain⟨b1,b2,b3⟩:=iF h3; have:=dD h4; obtain⟨c1,c2,c3⟩:=iF h5;obtain⟨rfl,rfl⟩:=PR.aW h;exact⟨Ji (c1:=.term) (c2:=.term) b1 c1 rfl (xj a1.2.2.1 a1.2.2.2) Er rfl,by omega,c3⟩
     split at h
     . obtain⟨_,_,h1,h⟩:=PR.ai h;obtain⟨_,_,h2,h⟩:=PR.ai h;obtain⟨_,_,h3,h⟩:=PR.ai h;obtain⟨a1,a2,a3⟩:=iF h1; have:=dD h2; obtain⟨b1,b2,b3⟩:=iF h3;obtain⟨rfl,rfl⟩:=PR.aW h;exact⟨Ji (c1:=.term) (c2:=.term) a1 b1 rfl sw Er rfl,by omega,b3⟩
     split at h
     . obtain⟨_,_,h1,h⟩:=PR.ai h;obtain⟨_,_,h2,h⟩:=PR.ai h;obtain⟨_,_,h3,h⟩:=PR.ai h;obtain⟨_,_,h4,h⟩:=PR.ai h;obtain⟨_,_,h5,h⟩:=PR.ai h;have a1:=ow hL h1; have:=dD h2; have a3:=tF hL h3; have:=dD h4; obtain⟨b1,b2,b3⟩:=iF h5;obtain⟨rfl,rfl⟩:=PR.aW h;exact⟨y4 (c1:=.term) b1 rfl (agU a1.2.2.1 a1.2.2.2 a3.2.2) (λ k hk=>tV hk) rfl,by omega,b3⟩
     split at h
     . obtain⟨_,_,h1,h⟩:=PR.ai h;obtain⟨_,_,h2,h⟩:=PR.ai h;obtain⟨_,_,h3,h⟩:=PR.ai h;have a1:=ow hL h1; have:=dD h2; obtain⟨b1,b2,b3⟩:=iF h3;obtain⟨rfl,rfl⟩:=PR.aW h;exact⟨y4 (c1:=.term) b1 rfl (xj a1.2.2.1 a1.2.2.2) (λ k hk=>tV hk) rfl,by omega,b3⟩
     . exact iO h
   . intro i lev j ns h;rw[eC]at h;split at h
     . exact iA h
     split at h
     . split at h
       . obtain⟨_,_,h1,h⟩:=PR.ai h;obtain⟨a1,a2,a3⟩:=iO h1;obtain⟨rfl,rfl⟩:=PR.aW h;exact⟨y4 (c1:=.term) a1 rfl sw (λ k hk=>tV hk) rfl,by omega,a3⟩
       . exact iO h
     . obtain⟨_,_,h1,h⟩:=PR.ai h;obtain⟨a1,a2,a3⟩:=iO h1;obtain⟨b1,b2,b3⟩:=iP h a1 a3;exact⟨b1,by omega,b3⟩
   . intro i lev left j ns h hl hi;rw[lK]at h;split at h
     . obtain⟨rfl,rfl⟩:=PR.aW h; exact⟨hl,bX _,hi⟩
     rename_i kind hk;split at h
     . rename_i h8;subst h8;have:=Tv hk;subst this;obtain⟨_,_,h1,h⟩:=PR.ai h;have a1:=tF hL h1;obtain⟨b1,b2,b3⟩:=iP h (y4 (c1:=.term) hl rfl (Gc a1.2.2) (λ k hk=>tV hk) rfl) (by omega);exact⟨b1,by omega,b3⟩
     . rename_i h8;obtain⟨f1,f2⟩:=XR hk h8;obtain⟨_,_,h1,h⟩:=PR.ai h;obtain⟨a1,a2,a3⟩:=iO h1;have ZH:∀ p,qE cE (node kind [] 0 0 p (left++_)):=λ p=>Ji (c1:=.term) (c2:=.term) hl a1 f1 sw Er f2;split at h
       . obtain⟨rfl,rfl⟩:=PR.aW h; exact⟨ZH _,by omega,a3⟩
       . obtain⟨b1,b2,b3⟩:=iP h (ZH _) a3;exact⟨b1,by omega,b3⟩
   . intro i j ns h;rw[gI]at h;split at h
     . have:=tC ‹_›;obtain⟨rfl,rfl⟩:=PR.aW h; exact⟨kF rfl sw rfl rfl,by omega,by omega⟩
     split at h
     . have:=tC ‹_›;obtain⟨rfl,rfl⟩:=PR.aW h; exact⟨kF rfl sw rfl rfl,by omega,by omega⟩
     split at h
     . have:=tC ‹_›;obtain⟨rfl,rfl⟩:=PR.aW h; exact⟨kF rfl sw rfl rfl,by omega,by omega⟩
     split at h
     . have:=tC ‹_›;obtain⟨rfl,rfl⟩:=PR.aW h; exact⟨kF rfl sw rfl rfl,by omega,by omega⟩
     split at h
     . obtain⟨_,_,h1,h⟩:=PR.ai h;have a1:=ow hL h1;obtain⟨rfl,rfl⟩:=PR.aW h; exact⟨kF rfl (xj a1.2.2.1 a1.2.2.2) rfl rfl,by omega,by omega⟩
     split at h
     . obtain⟨_,_,h1,h⟩:=PR.ai h;have a1:=ow hL h1;obtain⟨rfl,rfl⟩:=PR.aW h; exact⟨kF rfl (xj a1.2.2.1 a1.2.2.2) rfl rfl,by omega,by omega⟩
     split at h
     . obtain⟨_,_,h1,h⟩:=PR.ai h;obtain⟨_,_,h2,h⟩:=PR.ai h;obtain⟨a1,a2,a3⟩:=iT h1; have:=dD h2;obtain⟨rfl,rfl⟩:=PR.aW h; exact⟨a1,by omega,by omega⟩
     split at h
     . obtain⟨_,_,h1,h⟩:=PR.ai h;have a1:=tF hL h1;obtain⟨rfl,rfl⟩:=PR.aW h; exact⟨kF rfl (Gc a1.2.2) rfl rfl,by omega,by omega⟩
     . obtain⟨_,_,h1,h⟩:=PR.ai h;have a1:=ow hL h1;split at h
       . obtain⟨_,_,h2,h⟩:=PR.ai h;obtain⟨_,_,h3,h⟩:=PR.ai h;obtain⟨_,_,h4,h⟩:=PR.ai h;obtain⟨b1,b2,b3⟩:=iR h2;obtain⟨m,⟨ts,e1,o1,k1,l1⟩,q2,q3,q4,q5⟩:=iG h3 b1.n (by omega) (by omega) b3;have:=dD h4;obtain⟨rfl,rfl⟩:=PR.aW h;exact⟨oY ts e1 o1 rfl (xj a1.2.2.1 a1.2.2.2) (tz (sb (c:=oo) k1) (by simp; omega) (by simp; omega)) rfl,by omega,by omega⟩
       . obtain⟨rfl,rfl⟩:=PR.aW h; exact⟨kF rfl (xj a1.2.2.1 a1.2.2.2) rfl rfl,by omega,by omega⟩
   . intro i acc m j ns h ha hm KB hi;rw[kO]at h;split at h
     . obtain⟨_,_,h1,h⟩:=PR.ai h;obtain⟨a1,a2,a3⟩:=iR h1;obtain⟨m',q1,q2,q3,q4,q5⟩:=iG h (ha.snoc a1) (by omega) (by omega) a3;exact⟨m',q1,q2,q3,by omega,q5⟩
     . obtain⟨rfl,rfl⟩:=PR.aW h; exact⟨m,ha,hm,KB,bX _,hi⟩
   . intro i j ns h;rw[js]at h;split at h
     . obtain⟨_,_,h1,h⟩:=PR.ai h;obtain⟨_,_,h2,h⟩:=PR.ai h;obtain⟨_,_,h3,h⟩:=PR.ai h;obtain⟨_,_,h4,h⟩:=PR.ai h;have:=dD h1;obtain⟨m,⟨ts,e1,o1,k1,l1⟩,q2,q3,q4,q5⟩:=Gr (λ h=>Nz hL h) h2;have:=dD h3;obtain⟨⟨t,e2,o2,k2⟩,q6,q7⟩:=iF h4;obtain⟨rfl,rfl⟩:=PR.aW h;refine⟨oY (ts++[t]) (by simp[e1,e2,Tre.fy]) (by simp[Tre.sJ,o1,o2]) rfl sw ?_ rfl,by omega,q7⟩;rw[List.map_append,List.map_singleton];rw[tw (sb (c:=(jv.kind 37).is) k1) (by simp; omega) (by simp; omega) rfl];exact tV k2
     split at h
     . obtain⟨_,_,h1,h⟩:=PR.ai h;obtain⟨_,_,h2,h⟩:=PR.ai h;obtain⟨_,_,h3,h⟩:=PR.ai h;obtain⟨_,_,h4,h⟩:=PR.ai h;obtain⟨_,_,h5,h⟩:=PR.ai h;obtain⟨_,_,h6,h⟩:=PR.ai h;obtain⟨_,_,h7,h⟩:=PR.ai h;obtain⟨_,_,h8,h⟩:=PR.ai h;have:=dD h1; obtain⟨a1,a2,a3⟩:=iF h2; have:=dD h3; have:=dD h4; obtain⟨b1,b2,b3⟩:=Nz hL h5; have:=dD h6; obtain⟨c1,c2,c3⟩:=iF h7; have:=dD h8;obtain⟨rfl,rfl⟩:=PR.aW h;refine⟨ZZ (c1:=.term) (c2:=.kind 37) (c3:=.term) a1 b1 c1 rfl sw (λ k1 k2 k3 g1 g2 g3=>?_) rfl,by omega,by omega⟩;rw[show [k1,k2,k3]=[k1]++[k2,k3] from rfl,tw (by simpa using g1) (by simp) (by simp) rfl,show [k2,k3]=[k2]++[k3] from rfl,tw (by simpa using g2) (by simp) (by simp) rfl];exact tV g3
     . obtain⟨a1,a2,a3⟩:=iT h;exact⟨a1.low λ k hk=>by simp only[cE,oo,eg]at hk ⊢; omega,a2,a3⟩
theorem abv (hL:∀ t∈L,kB t) (hn:L.length<=900) {f i j:Nat} {ns:List Nd} (h:mN L E f i=.ok ns j):G1 L jB i ns j:=by
 unfold mN at h;split at h
 . obtain⟨_,_,h1,h⟩:=PR.ai h;obtain⟨_,_,h2,h⟩:=PR.ai h;obtain⟨_,_,h3,h⟩:=PR.ai h;obtain⟨_,_,h4,h⟩:=PR.ai h;have a1:=ow hL h1; have:=dD h2; obtain⟨b1,b2,b3⟩:=Ot hL hn h3; have:=dD h4;obtain⟨rfl,rfl⟩:=PR.aW h;exact⟨y4 (c1:=.type) b1 rfl (xj a1.2.2.1 a1.2.2.2) (λ k hk=>tV hk) rfl,by omega,by omega⟩
 . obtain⟨k,p,h0,h⟩:=PR.ai h;obtain⟨_,_,h1,h⟩:=PR.ai h;obtain⟨_,_,h2,h⟩:=PR.ai h;obtain⟨_,_,h3,h⟩:=PR.ai h;obtain⟨_,_,h4,h⟩:=PR.ai h;obtain⟨_,_,h5,h⟩:=PR.ai h;obtain⟨_,_,h6,h⟩:=PR.ai h;obtain⟨_,_,h7,h⟩:=PR.ai h;obtain⟨_,_,h8,h⟩:=PR.ai h;obtain⟨_,_,h9,hz⟩:=PR.ai h;have hp:p=i+1/\(k=3\/k=4):=by
    split at h0
    . have:=PR.aW h0; omega
    . obtain⟨_,_,g1,g2⟩:=PR.ai h0;have:=cT g1;have:=PR.aW g2;omega
   obtain⟨rfl,hk⟩:=hp;have h3':∀ {a:List Nd} {j q:Nat},j<=L.length->(if bm L j bJ=true then (PR.ok [] j:PR (List Nd)) else jW L (j0 L E f) f j)=.ok a q->∃ m,s8 (jv.kind 5).is m a/\m<=q/\j<=q/\q<=L.length:=λ hj h=>by
    split at h
    . obtain⟨rfl,rfl⟩:=PR.aW h; exact⟨0,.nil,by omega,bX _,hj⟩
    . obtain⟨m,q1,q2,q3,q4,q5⟩:=Gr (λ h=>XW hL hn h) h;exact⟨m,q1,q3,by omega,q5⟩
   have a1:=ow hL h1; have:=dD h2; obtain⟨m,⟨ts,e1,o1,k1,l1⟩,q3,q4,q5⟩:=h3' (by omega) h3; have:=dD h4; have:=dD h5; obtain⟨⟨t2,e2,o2,k2⟩,b2,b3⟩:=B4 hL h6; have:=dD h7; obtain⟨⟨t3,e3,o3,k3⟩,c2,c3⟩:=(aeo hL hn f).1 h8; have:=dD h9;obtain⟨rfl,rfl⟩:=PR.aW hz;have hf:bG k=some ⟨true,false,false,[⟨.kind 5,0,900⟩,⟨.base,1,1⟩,⟨.term,1,1⟩]⟩:=by
    rcases hk with rfl|rfl<;>rfl
   refine⟨oY (ts++[t2,t3]) (by simp[e1,e2,e3,Tre.fy]) (by simp[Tre.sJ,o1,o2,o3]) hf (xj a1.2.2.1 a1.2.2.2) ?_ (by rcases hk with rfl|rfl<;>rfl),by omega,by omega⟩
   rw[List.map_append];rw[tw (sb (c:=(jv.kind 5).is) k1) (by simp) (by simp; omega) rfl];rw[show [t2,t3].map Tre.kind=[t2.kind]++[t3.kind] from rfl,tw (λ k hk=>by simp only[kn]at hk; subst hk; exact k2) (by simp) (by simp) rfl];exact tV k3
theorem DD (hL:∀ t∈L,kB t) (hn:L.length<=900):∀ (f:Nat) (acc:List Nd) (m i:Nat) {j:Nat} {ns:List Nd},ku L E f acc i=.ok ns j->s8 jB m acc->m<=i->i<=L.length->∃ m,s8 jB m ns/\m<=j/\j<=L.length
 | 0,_,_,_,_,_,h,_,_,_=>by cases h
 | f+1,acc,m,i,j,ns,h,ha,hm,hi=>by
   rw[ku]at h;split at h
   . obtain⟨_,_,h1,h⟩:=PR.ai h;obtain⟨a1,a2,a3⟩:=abv hL hn h1;exact DD hL hn f _ (m+1) _ h (ha.snoc a1) (by omega) a3
   . obtain⟨rfl,rfl⟩:=PR.aW h;exact⟨m,ha,hm,hi⟩
end
theorem IP {l:List Nd} {m:Nat} (h:s8 jB m l) (hm:m<=900):fR (node 1 [] 0 0 0 l)=if 900<(node 1 [] 0 0 0 l).length\/jU (node 1 [] 0 0 0 l)=true then 5 else 0:=by
 obtain⟨ts,e1,o1,k1,l1⟩:=h;have CQ:node 1 [] 0 0 0 l=(Tre.mk 1 [] 0 0 0 ts).flat:=by rw[Tre.dZ,e1]; rfl
 have cS:(Tre.mk 1 [] 0 0 0 ts).ok=true:=by
  rw[Tre.ok];have hf:bG 1=some ⟨false,false,false,[⟨.item,0,900⟩]⟩:=rfl;have:=tz (c:=.item) (lo:=0) (hi:=900) (sb (c:=jB) k1) (by simp) (by simp; omega);simp only[hf,sw,this,o1,Bool.and_self]
 rw[CQ]
 by_cases h9:900<(Tre.mk 1 [] 0 0 0 ts).flat.length
 . rw[if_pos (.inl h9)]; unfold fR; rw[if_pos h9]
 . rw[AB _ h9];unfold Dt;rw[if_neg (by simp[Tre.kind,cS]),xl]
   by_cases hg:60<(Tre.mk 1 [] 0 0 0 ts).deep\/24<(Tre.mk 1 [] 0 0 0 ts).kids.length
   . rw[if_pos hg,if_pos (.inr (by simpa using hg))]
   . rw[if_neg hg,if_neg (λ h=>hg (by rcases h with h|h; exact absurd h h9; simpa using h))]
end Go.Rip
namespace Go.Rip
open Go.Proofs Go.RowKit
section
variable {ar U:St} {v y:AV} {e:TypeId} {sz n m:Nat} {l l2:List AV} {K':AV->St->Prop} {Kp:AV->St->Prop}
end
theorem QC {s:aG} (h:kH s=true):s.length<=12:=by
 unfold kH at h;rw[eg]at h;rcases ql h with h|h|h|h
 . exact h.2.2.1
 . omega
 . omega
 . omega
theorem Bn:∀ (N:Nat) (ts:List Tre),(Tre.bu ts).length<=N->Tre.uo ts=true->∀ x∈Tre.bu ts,x.text.length<=12
 | _,[],_,_=>by simp
 | 0,t::ts,hN,_=>by have:=t.dJ; simp only[Tre.cM,cO]at hN; omega
 | N+1,.mk k tx n m a ks::ts,hN,ho=>by
   simp only[Tre.cM,Tre.dZ,cO,eX]at hN;rw[Tre.tG,Tre.ok]at ho;simp only[cb]at ho;obtain⟨⟨h1,h2⟩,h3⟩:=ho;have e1:=Bn N ks (by omega) h2;have e2:=Bn N ts (by omega) h3;intro x hx;simp only[Tre.cM,Tre.dZ,dK,cK,fT]at hx;rcases hx with rfl|hx|hx
   . split at h1
     . rename_i f hf;simp only[eF,cb]at h1;obtain⟨⟨⟨⟨⟨⟨g1,g2⟩,g3⟩,g4⟩,g5⟩,g6⟩,g7⟩:=h1;cases NZ:f.text with
       | true =>
         rw[NZ]at g2;exact QC (by simpa using g2)
       | false =>
         rw[NZ]at g1;have:tx=[]:=by simpa using g1
         simp[this]
     . cases h1
   . exact e1 x hx
   . exact e2 x hx
end Go.Rip
namespace Go.Rip
open Go.Proofs Go.RowKit
theorem Lk (U:St) (l:List Nd):sj U (fg l) l:=by
 unfold fg;split
 . rename_i h; subst h; exact .inl (.inl ⟨rfl,rfl⟩)
 . exact .inl (.inr ⟨_,rfl⟩)
theorem TS (l1 l2:List Nd) (h1:l1.length<=1000000) (h2:l2.length<=1000000):Pure K 22 [.agg [fg l1],.agg [fg l2]] (.bool (decide (l1=l2))):=by
 refine Pure.of (by simp[cD,closed,qR]) rfl (λ U=>rfl) λ R hR=>?_;refine Yc ?_;unfold aah;rw[gd rfl];intro b1 iN;rw[gd rfl];intro b2 gz;have m1:((bU ⟨.e,0⟩).new b1 (.box (av (.agg [fg l1])))).box b1=some [fg l1]:=aD;have m1':=(bg gz (x:=.box (av (.agg [fg l2])))).aY m1;have m2:(((bU ⟨.e,0⟩).new b1 (.box (av (.agg [fg l1])))).new b2 (.box (av (.agg [fg l2])))).box b2=some [fg l2]:=aD;generalize ((bU _).new b1 _).new b2 _=U at *;simp only[bh,al,db];refine ej m1' rfl ?_;refine ej m2 rfl ?_;exact ace (Lk _ _) (Lk _ _) h1 h2 (aq.mk (hR _))
end Go.Rip
