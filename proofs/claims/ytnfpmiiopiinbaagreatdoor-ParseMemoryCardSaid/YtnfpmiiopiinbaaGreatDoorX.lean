import Derived.Test.YtnfpmiiopiinbaaGreatDoorYb
import Derived.Test.YtnfpmiiopiinbaaGreatDoorAw
set_option linter.all false
namespace Go.Rip
def QH{p:Int->Bool}:∀{l:List Int},(∀x∈l,p x)->l.takeWhile p=l
 | [],_=>rfl
 | a::l,h=>by rw[om,if_pos (h a d8),QH λx hx=>h x (by simp[hx])]
def uS{s:nq}{ss:List nq}{la rest:List Int}(h:∀k∈la,s.c.is k)(h1:s.least<=la.length)(h2:la.length<=s.ph)(h3:rest.length=(ss.map (·.least)).sum):dB (la++rest) (s::ss)=dB rest ss:=by
 have htw:la.takeWhile s.c.is=la:=QH h;have ajM:min ((la++rest).length-(ss.map (·.least)).sum) s.ph=la.length:=by
  rw[dx];omega
 rw[dB];simp only[ajM,List.take_left,htw,List.drop_left];rw[if_neg d6]
def uT{c:ku}{lo hi:Nat}{ks:List Int}(h:∀k∈ks,c.is k)(h1:lo<=ks.length)(h2:ks.length<=hi):dB ks [⟨c,lo,hi⟩]:=by
 have:=uS (s:=⟨c,lo,hi⟩) (ss:=[]) (rest:=[]) h h1 h2 rfl;rw[iM]at this;rw[this];rfl
def vD{c:ku}{k:Int}(h:c.is k):dB [k] [⟨c,1,1⟩]:=uT (by simpa using h) d8 d8
def rW(c:Int->Bool)(ns:List Nd):Prop:=∃t:Tre,ns=t.flat/\t.ok/\c t.kind
def uG(c:Int->Bool)(m:Nat)(ns:List Nd):Prop:=∃ts:List Tre,ns=Tre.cH ts/\Tre.wk ts/\(∀t∈ts,c t.kind)/\ts.length=m
def uG.nil{c:Int->Bool}:uG c 0 []:=⟨[],d8,d8,d8,rfl⟩
def rW.n{c:Int->Bool}{ns:List Nd}(h:rW c ns):uG c 1 ns:=by
 obtain⟨t,h1,h2,h3⟩:=h;exact⟨[t],by simp[h1],by simp[h2],by simpa using h3,rfl⟩
def uG.snoc{c:Int->Bool}{m:Nat}{ns ns':List Nd}(h:uG c m ns)(k:rW c ns'):uG c (m+1) (ns++ns'):=by
 obtain⟨t,h1,h2,h3⟩:=k;obtain⟨ts,k1,k2,k3,k4⟩:=h;refine⟨ts++[t],by simp[Tre.pb,h1,k1],by simp[Tre.uk,h2,k2],λx hx=>?_,by simp[k4]⟩;rw[gV,lT]at hx;rcases hx with hx|rfl
 . exact k3 x hx
 . exact h3
def rW.low{c c':Int->Bool}{ns:List Nd}(h:rW c ns)(k:∀x,c x->c' x):rW c' ns:=by
 obtain⟨t,h1,h2,h3⟩:=h;exact⟨t,h1,h2,k _ h3⟩
section
variable {c:Int->Bool}{k:Int}{tx:aT}{n m a:Int}{f:iQ}{ts:List Tre}{ns:List Nd}
def pL(ts:List Tre)(G2:ns=Tre.cH ts)(h3:Tre.wk ts)(hf:bS k=some f)(h1:fx ⟨k,tx,n,m,a,0⟩ f)(h2:dB (ts.map Tre.kind) f.kids)(hc:c k):rW c (node k tx n m a ns):=by
 refine⟨.mk k tx n m a ts,?_,?_,hc⟩
 . rw[Tre.gQ,G2];rfl
 . rw[Tre.ok];simp only[hf,h1,h2,h3,Bool.and_self]
def lR(hf:bS k=some f)(h1:fx ⟨k,tx,n,m,a,0⟩ f)(h2:dB [] f.kids)(hc:c k):rW c (node k tx n m a []) :=
 pL [] d8 d8 hf h1 h2 hc
def Bz{c1:ku}{a1:List Nd}(H1:rW c1.is a1)(hf:bS k=some f)(h1:fx ⟨k,tx,n,m,a,0⟩ f)(h2:∀k1,c1.is k1->dB [k1] f.kids)(hc:c k):rW c (node k tx n m a a1):=by
 obtain⟨t1,e1,o1,k1⟩:=H1;exact pL [t1] (by simp[e1]) (by simp[o1]) hf h1 (h2 _ k1) hc
def KZ{c1 c2:ku}{a1 a2:List Nd}(H1:rW c1.is a1)(H2:rW c2.is a2)(hf:bS k=some f)(h1:fx ⟨k,tx,n,m,a,0⟩ f)(h2:∀k1 k2,c1.is k1->c2.is k2->dB [k1,k2] f.kids)(hc:c k):rW c (node k tx n m a (a1++a2)):=by
 obtain⟨t1,e1,o1,k1⟩:=H1;obtain⟨t2,e2,o2,k2⟩:=H2;exact pL [t1,t2] (by simp[e1,e2]) (by simp[o1,o2]) hf h1 (h2 _ _ k1 k2) hc
def adi{c1 c2 c3:ku}{a1 a2 a3:List Nd}(H1:rW c1.is a1)(H2:rW c2.is a2)(H3:rW c3.is a3)(hf:bS k=some f)(h1:fx ⟨k,tx,n,m,a,0⟩ f)(h2:∀k1 k2 k3,c1.is k1->c2.is k2->c3.is k3->dB [k1,k2,k3] f.kids)(hc:c k):rW c (node k tx n m a (a1++a2++a3)):=by
 obtain⟨t1,e1,o1,k1⟩:=H1;obtain⟨t2,e2,o2,k2⟩:=H2;obtain⟨t3,e3,o3,k3⟩:=H3;exact pL [t1,t2,t3] (by simp[e1,e2,e3]) (by simp[o1,o2,o3]) hf h1 (h2 _ _ _ k1 k2 k3) hc
end
def GH(k1 k2:Int)(h1:ku.term.is k1)(h2:ku.term.is k2):dB [k1,k2] [⟨.term,2,2⟩]:=uT (by simp[h1,h2]) d8 d8
def agh(k1 k2 k3:Int)(h1:ku.term.is k1)(h2:ku.term.is k2)(h3:ku.term.is k3):dB [k1,k2,k3] [⟨.term,3,3⟩]:=uT (by simp[h1,h2,h3]) d8 d8
variable {z:Int}{l:List nq}{i j:Nat}{x:aT}
section
variable {L:List Tk}{E:Nat}
def et{w:aT}{u:Unit}(h:bR L w i=.ok u j):j=i+1/\i<L.length:=by
 have:=dZ h;unfold bR at h;split at h
 . rename_i hw;obtain⟨t,ht,_⟩:=yW hw;exact⟨this,(dw.1 ht).1⟩
 . cases h
def uY{w:aT}(h:bP L i w):i<L.length:=by
 obtain⟨t,ht,_⟩:=yW h;exact (dw.1 ht).1
def pj(hL:∀t∈L,o4 t)(h:fO L i=.ok x j):j=i+1/\i<L.length/\gr x/\x≠[]:=by
 have:=mN h;unfold fO at h;split at h
 . rename_i t ht;split at h
   . rename_i hk;obtain⟨rfl,rfl⟩:=PR.cr h;have hm:=hL t (fT ht);refine⟨this,(dw.1 ht).1,?_,hm.1⟩;unfold gr;rw[hm.2,hk];simp
   . cases h
 . cases h
def u7(hL:∀t∈L,o4 t){x:Int}(h:js L i=.ok x j):j=i+1/\i<L.length/\ek x:=by
 have:=rj h;unfold js at h;split at h
 . rename_i t ht;split at h
   . rename_i hk;obtain⟨rfl,rfl⟩:=PR.cr h;have hm:=hL t (fT ht);refine⟨this,(dw.1 ht).1,?_⟩;have:=zd hm.1 (Iz hm hk);simp[ek,this.2.2.2]
   . cases h
 . cases h
def tW{k a:Int}:fx ⟨k,[],0,0,a,z⟩ ⟨false,false,false,l⟩:=by simp[fx,ek]
def zC{k a:Int}(hx:gr x)(h0:x≠[]):fx ⟨k,x,0,0,a,z⟩ ⟨true,false,false,l⟩:=by simp[fx,ek,hx,h0]
def Ig{k a n:Int}(hn:ek n):fx ⟨k,[],n,0,a,z⟩ ⟨false,true,false,l⟩:=by
 have:ek 0:=by simp[ek]
 simp[fx,hn,this]
def ah3{k a n:Int}(hx:gr x)(h0:x≠[])(hn:ek n):fx ⟨k,x,n,0,a,z⟩ ⟨true,true,false,l⟩:=by
 have:ek 0:=by simp[ek]
 simp[fx,hn,this,hx,h0]
def agk{k a n m:Int}(hx:gr x)(h0:x≠[])(hn:ek n)(hm:ek m):fx ⟨k,x,n,m,a,z⟩ ⟨true,true,true,l⟩:=by
 simp[fx,hn,hm,hx,h0]
def G1(L:List Tk)(c:Int->Bool)(i:Nat)(ns:List Nd)(j:Nat):Prop:=rW c ns/\i<j/\j<=L.length
def Ei(hL:∀t∈L,o4 t){ns:List Nd}(h:jh L E i=.ok ns j):G1 L jH i ns j:=by
 unfold jh at h;split at h
 . rename_i hw;have:=uY hw;obtain⟨rfl,rfl⟩:=PR.cr h;exact⟨lR rfl (Ig rfl) rfl rfl,d6,d6⟩
 . split at h
   . rename_i hw;have:=uY hw;obtain⟨rfl,rfl⟩:=PR.cr h;exact⟨lR rfl (Ig rfl) rfl rfl,d6,d6⟩
   . split at h
     . obtain⟨_,_,h1,h⟩:=PR.ay h;have:=u7 hL h1;obtain⟨rfl,rfl⟩:=PR.cr h;exact⟨lR rfl (Ig this.2.2) rfl rfl,d6,d6⟩
     . obtain⟨_,_,h1,h⟩:=PR.ay h;obtain⟨_,_,h2,h⟩:=PR.ay h;have:=et h1;have:=u7 hL h2;obtain⟨rfl,rfl⟩:=PR.cr h;exact⟨lR rfl (Ig this.2.2) rfl rfl,d6,d6⟩
def Ph(hL:∀t∈L,o4 t){ns:List Nd}(h:mY L E i=.ok ns j):G1 L (ku.kind 37).is i ns j:=by
 unfold mY at h;obtain⟨_,_,h1,h⟩:=PR.ay h;have:=pj hL h1;obtain⟨rfl,rfl⟩:=PR.cr h;exact⟨lR rfl (zC this.2.2.1 this.2.2.2) rfl (by simp[ku.is]),d6,d6⟩
def Qg{c:Int->Bool}{one:Nat->PR (List Nd)}(h1:∀{i j ns},one i=.ok ns j->G1 L c i ns j):∀(f:Nat)(acc:List Nd)(m i:Nat){j:Nat}{ns:List Nd},mG L one f acc i=.ok ns j->uG c m acc->1<=m->m<=i->i<=L.length->∃m,uG c m ns/\1<=m/\m<=j/\i<=j/\j<=L.length
 | 0,_,_,_,_,_,h,_,_,_,_=>by cases h
 | f+1,acc,m,i,j,ns,h,ha,hm,Ml,hi=>by
   unfold mG at h;split at h
   . obtain⟨_,_,h2,h⟩:=PR.ay h;obtain⟨k1,k2,k3⟩:=h1 h2;obtain⟨m',q1,q2,q3,q4,q5⟩:=Qg h1 f _ (m+1) _ h (ha.snoc k1) d6 d6 k3;exact⟨m',q1,q2,q3,d6,q5⟩
   . obtain⟨rfl,rfl⟩:=PR.cr h;exact⟨m,ha,hm,Ml,da _,hi⟩
def Ir{c:Int->Bool}{one:Nat->PR (List Nd)}(h1:∀{i j ns},one i=.ok ns j->G1 L c i ns j){f i j:Nat}{ns:List Nd}(h:mF L one f i=.ok ns j):∃m,uG c m ns/\1<=m/\m<=j/\i<j/\j<=L.length:=by
 unfold mF at h;obtain⟨_,_,h2,h⟩:=PR.ay h;obtain⟨k1,k2,k3⟩:=h1 h2;obtain⟨m',q1,q2,q3,q4,q5⟩:=Qg h1 f _ 1 _ h k1.n d6 d6 k3;exact⟨m',q1,q2,q3,d6,q5⟩
def tH{c:Int->Bool}{ts:List Tre}(h:∀t∈ts,c t.kind):∀k∈ts.map Tre.kind,c k:=λk hk=>by
 obtain⟨t,ht,rfl⟩:=List.mem_map.1 hk;exact h t ht
def Qb(hL:∀t∈L,o4 t)(hn:L.length<=900){f:Nat}{ns:List Nd}(h:oX L E f i=.ok ns j):G1 L fJ i ns j:=by
 unfold oX at h;split at h
 . obtain⟨_,_,h1,h⟩:=PR.ay h;obtain⟨_,_,h2,h⟩:=PR.ay h;obtain⟨_,_,h3,h⟩:=PR.ay h;obtain⟨_,_,h4,h⟩:=PR.ay h;obtain⟨m,⟨ts,e1,o1,k1,l1⟩,q2,q3,q4,q5⟩:=Ir (λh=>Ei hL h) h1;have:=et h2;have:=et h3;obtain⟨⟨t,e2,o2,k2⟩,q6,q7⟩:=Ei hL h4;obtain⟨rfl,rfl⟩:=PR.cr h;refine⟨pL (ts++[t]) (by simp[e1,e2,Tre.pb]) (by simp[Tre.uk,o1,o2]) rfl tW ?_ rfl,d6,q7⟩;refine uT (λk hk=>?_) (by simp;omega) (by simp;omega);refine tH (c:=jH) (ts:=ts++[t]) (λt ht=>?_) k hk;simp only[gV,lT]at ht;rcases ht with ht|rfl
   . exact k1 t ht
   . exact k2
 . obtain⟨h1,h2,h3⟩:=Ei hL h;exact⟨h1.low λk hk=>by simp only[jH,fJ,dU]at hk ⊢;omega,h2,h3⟩
def aby(hL:∀t∈L,o4 t)(hn:L.length<=900){f:Nat}{ns:List Nd}(h:jM L E f i=.ok ns j):G1 L (ku.kind 5).is i ns j:=by
 unfold jM at h;obtain⟨_,_,h1,h⟩:=PR.ay h;obtain⟨_,_,h2,h⟩:=PR.ay h;obtain⟨_,_,h3,h⟩:=PR.ay h;have a1:=pj hL h1;have:=et h2;have a3:=Qb hL hn h3;obtain⟨b1,b2,b3⟩:=a3;obtain⟨rfl,rfl⟩:=PR.cr h;exact⟨Bz (c1:=.type) b1 rfl (zC a1.2.2.1 a1.2.2.2) (λk hk=>vD hk) (by simp[ku.is]),d6,b3⟩
def abr{lev:Nat}{k:Int}(h:mi L lev i=some k)(h8:lev≠8):bS k=some ⟨false,false,false,[⟨.term,2,2⟩]⟩/\cP k:=by
 unfold mi at h;simp only[h8,if_false]at h
 repeat' split at h
 all_goals first
  | (cases h;exact⟨rfl,rfl⟩)
  | cases h
def U6{k:Int}(h:mi L 8 i=some k):k=25:=by
 unfold mi at h;simp only[show ¬ (8:Nat)=2 by omega,show ¬ (8:Nat)=3 by omega,show ¬ (8:Nat)=5 by omega,show ¬ (8:Nat)=6 by omega,show ¬ (8:Nat)=7 by omega,if_false,if_true]at h;split at h
 . cases h;rfl
 . cases h
def ags(hL:∀t∈L,o4 t)(hn:L.length<=900):∀f:Nat,
 (∀{i j ns},iE L E f i=.ok ns j->G1 L cP i ns j) /\
 (∀{i at_ acc many j ns},mr L E f at_ acc many i=.ok ns j->uG cP many acc->1<=many->many<=i->i<=L.length->rW cP ns/\i<=j/\j<=L.length) /\
 (∀{i j ns},cM L E f i=.ok ns j->G1 L cP i ns j) /\
 (∀{i lev j ns},fZ L E f lev i=.ok ns j->G1 L cP i ns j) /\
 (∀{i lev left j ns},ky L E f lev left i=.ok ns j->rW cP left->i<=L.length->rW cP ns/\i<=j/\j<=L.length) /\
 (∀{i j ns},lX L E f i=.ok ns j->G1 L cP i ns j) /\
 (∀{i acc m j ns},ki L E f acc i=.ok ns j->uG lh m acc->1<=m->m<=i->i<=L.length->∃m,uG lh m ns/\1<=m/\m<=j/\i<=j/\j<=L.length) /\
 (∀{i j ns},jX L E f i=.ok ns j->G1 L lh i ns j):=by
 intro f
 induction f with
 | zero=>refine⟨?_,?_,?_,?_,?_,?_,?_,?_⟩<;>(intros;rename_i h;first|(rw[iE]at h;cases h;done)|(rw[cM]at h;cases h;done)|(rw[fZ]at h;cases h;done)|(rw[lX]at h;cases h;done)|(rw[jX]at h;cases h;done)|(simp_all [mr];done)|(simp_all [ky];done)|(simp_all [ki];done))
 | succ f ih =>
   obtain⟨iT,iS,iF,iO,iP,iA,iG,iR⟩:=ih;refine⟨?_,?_,?_,?_,?_,?_,?_,?_⟩
   . intro i j ns h;rw[iE]at h;obtain⟨_,_,h1,h⟩:=PR.ay h;obtain⟨a1,a2,a3⟩:=iF h1;obtain⟨b1,b2,b3⟩:=iS h a1.n d6 d6 a3;exact⟨b1,d6,b3⟩
   . intro i at_ acc many j ns h ha hm Ml hi;rw[mr]at h;split at h
     . obtain⟨_,_,h1,h⟩:=PR.ay h;obtain⟨a1,a2,a3⟩:=iF h1;obtain⟨b1,b2,b3⟩:=iS h (ha.snoc a1) d6 d6 a3;exact⟨b1,d6,b3⟩
     . obtain⟨rfl,rfl⟩:=PR.cr h;obtain⟨ts,e1,o1,k1,l1⟩:=ha;split
       . rename_i h1
         match ts,l1.trans h1 with
         | [t],_=>exact⟨⟨t,by simp[e1],by simpa using o1,k1 t d8⟩,da _,hi⟩
       . exact⟨pL ts e1 o1 rfl tW (uT (tH (c:=cP) k1) (by simp;omega) (by simp;omega)) rfl,da _,hi⟩
   . intro i j ns h;rw[cM]at h;split at h
     . obtain⟨_,_,h1,h⟩:=PR.ay h;obtain⟨_,_,h2,h⟩:=PR.ay h;obtain⟨_,_,h3,h⟩:=PR.ay h;obtain⟨_,_,h4,h⟩:=PR.ay h;obtain⟨_,_,h5,h⟩:=PR.ay h;obtain⟨a1,a2,a3⟩:=iF h1;have:=et h2;obtain⟨b1,b2,b3⟩:=iF h3;have:=et h4;obtain⟨c1,c2,c3⟩:=iF h5;obtain⟨rfl,rfl⟩:=PR.cr h;exact⟨adi (c1:=.term) (c2:=.term) (c3:=.term) a1 b1 c1 rfl tW agh rfl,d6,c3⟩
     split at h
     . obtain⟨_,_,h1,h⟩:=PR.ay h;obtain⟨_,_,h2,h⟩:=PR.ay h;obtain⟨_,_,h3,h⟩:=PR.ay h;obtain⟨a1,a2,a3⟩:=iF h1;have:=et h2;obtain⟨b1,b2,b3⟩:=iF h3;obtain⟨rfl,rfl⟩:=PR.cr h;exact⟨KZ (c1:=.term) (c2:=.term) a1 b1 rfl tW GH rfl,d6,b3⟩
     split at h
     . obtain⟨_,_,h1,h⟩:=PR.ay h;obtain⟨_,_,h2,h⟩:=PR.ay h;obtain⟨_,_,h3,h⟩:=PR.ay h;obtain⟨_,_,h4,h⟩:=PR.ay h;obtain⟨_,_,h5,h⟩:=PR.ay h;obtain⟨_,_,h6,h⟩:=PR.ay h;obtain⟨_,_,h7,h⟩:=PR.ay h;have a1:=pj hL h1;have:=et h2;have a3:=u7 hL h3;have:=et h4;have a5:=u7 hL h5;have:=et h6;obtain⟨b1,b2,b3⟩:=iF h7;obtain⟨rfl,rfl⟩:=PR.cr h;exact⟨Bz (c1:=.term) b1 rfl (agk a1.2.2.1 a1.2.2.2 a3.2.2 a5.2.2) (λk hk=>vD hk) rfl,d6,b3⟩
     split at h
     . obtain⟨_,_,h1,h⟩:=PR.ay h;obtain⟨_,_,h2,h⟩:=PR.ay h;obtain⟨_,_,h3,h⟩:=PR.ay h;obtain⟨_,_,h4,h⟩:=PR.ay h;obtain⟨_,_,h5,h⟩:=PR.ay h;have a1:=pj hL h1;have:=et h2;obtain⟨b1,b2,b3⟩:=iF h3;have:=et h4;obtain⟨c1,c2,c3⟩:=iF h5;obtain⟨rfl,rfl⟩:=PR.cr h;exact⟨KZ (c1:=.term) (c2:=.term) b1 c1 rfl (zC a1.2.2.1 a1.2.2.2) GH rfl,d6,c3⟩
     split at h
     . obtain⟨_,_,h1,h⟩:=PR.ay h;obtain⟨_,_,h2,h⟩:=PR.ay h;obtain⟨_,_,h3,h⟩:=PR.ay h;obtain⟨a1,a2,a3⟩:=iF h1;have:=et h2;obtain⟨b1,b2,b3⟩:=iF h3;obtain⟨rfl,rfl⟩:=PR.cr h;exact⟨KZ (c1:=.term) (c2:=.term) a1 b1 rfl tW GH rfl,d6,b3⟩
     split at h
     . obtain⟨_,_,h1,h⟩:=PR.ay h;obtain⟨_,_,h2,h⟩:=PR.ay h;obtain⟨_,_,h3,h⟩:=PR.ay h;obtain⟨_,_,h4,h⟩:=PR.ay h;obtain⟨_,_,h5,h⟩:=PR.ay h;have a1:=pj hL h1;have:=et h2;have a3:=u7 hL h3;have:=et h4;obtain⟨b1,b2,b3⟩:=iF h5;obtain⟨rfl,rfl⟩:=PR.cr h;exact⟨Bz (c1:=.term) b1 rfl (ah3 a1.2.2.1 a1.2.2.2 a3.2.2) (λk hk=>vD hk) rfl,d6,b3⟩
     split at h
     . obtain⟨_,_,h1,h⟩:=PR.ay h;obtain⟨_,_,h2,h⟩:=PR.ay h;obtain⟨_,_,h3,h⟩:=PR.ay h;have a1:=pj hL h1;have:=et h2;obtain⟨b1,b2,b3⟩:=iF h3;obtain⟨rfl,rfl⟩:=PR.cr h;exact⟨Bz (c1:=.term) b1 rfl (zC a1.2.2.1 a1.2.2.2) (λk hk=>vD hk) rfl,d6,b3⟩
     . exact iO h
   . intro i lev j ns h;rw[fZ]at h;split at h
     . exact iA h
     split at h
     . split at h
       . obtain⟨_,_,h1,h⟩:=PR.ay h;obtain⟨a1,a2,a3⟩:=iO h1;obtain⟨rfl,rfl⟩:=PR.cr h;exact⟨Bz (c1:=.term) a1 rfl tW (λk hk=>vD hk) rfl,d6,a3⟩
       . exact iO h
     . obtain⟨_,_,h1,h⟩:=PR.ay h;obtain⟨a1,a2,a3⟩:=iO h1;obtain⟨b1,b2,b3⟩:=iP h a1 a3;exact⟨b1,d6,b3⟩
   . intro i lev left j ns h hl hi;rw[ky]at h;split at h
     . obtain⟨rfl,rfl⟩:=PR.cr h;exact⟨hl,da _,hi⟩
     rename_i kind hk;split at h
     . rename_i h8;subst h8;have:=U6 hk;subst this;obtain⟨_,_,h1,h⟩:=PR.ay h;have a1:=u7 hL h1;obtain⟨b1,b2,b3⟩:=iP h (Bz (c1:=.term) hl rfl (Ig a1.2.2) (λk hk=>vD hk) rfl) d6;exact⟨b1,d6,b3⟩
     . rename_i h8;obtain⟨f1,f2⟩:=abr hk h8;obtain⟨_,_,h1,h⟩:=PR.ay h;obtain⟨a1,a2,a3⟩:=iO h1;have adb:∀p,rW cP (node kind [] 0 0 p (left++_)):=λp=>KZ (c1:=.term) (c2:=.term) hl a1 f1 tW GH f2;split at h
       . obtain⟨rfl,rfl⟩:=PR.cr h;exact⟨adb _,d6,a3⟩
       . obtain⟨b1,b2,b3⟩:=iP h (adb _) a3;exact⟨b1,d6,b3⟩
   . intro i j ns h;rw[lX]at h;split at h
     . have:=uY ‹_›;obtain⟨rfl,rfl⟩:=PR.cr h;exact⟨lR rfl tW rfl rfl,d6,d6⟩
     split at h
     . have:=uY ‹_›;obtain⟨rfl,rfl⟩:=PR.cr h;exact⟨lR rfl tW rfl rfl,d6,d6⟩
     split at h
     . have:=uY ‹_›;obtain⟨rfl,rfl⟩:=PR.cr h;exact⟨lR rfl tW rfl rfl,d6,d6⟩
     split at h
     . have:=uY ‹_›;obtain⟨rfl,rfl⟩:=PR.cr h;exact⟨lR rfl tW rfl rfl,d6,d6⟩
     split at h
     . obtain⟨_,_,h1,h⟩:=PR.ay h;have a1:=pj hL h1;obtain⟨rfl,rfl⟩:=PR.cr h;exact⟨lR rfl (zC a1.2.2.1 a1.2.2.2) rfl rfl,d6,d6⟩
     split at h
     . obtain⟨_,_,h1,h⟩:=PR.ay h;have a1:=pj hL h1;obtain⟨rfl,rfl⟩:=PR.cr h;exact⟨lR rfl (zC a1.2.2.1 a1.2.2.2) rfl rfl,d6,d6⟩
     split at h
     . obtain⟨_,_,h1,h⟩:=PR.ay h;obtain⟨_,_,h2,h⟩:=PR.ay h;obtain⟨a1,a2,a3⟩:=iT h1;have:=et h2;obtain⟨rfl,rfl⟩:=PR.cr h;exact⟨a1,d6,d6⟩
     split at h
     . obtain⟨_,_,h1,h⟩:=PR.ay h;have a1:=u7 hL h1;obtain⟨rfl,rfl⟩:=PR.cr h;exact⟨lR rfl (Ig a1.2.2) rfl rfl,d6,d6⟩
     . obtain⟨_,_,h1,h⟩:=PR.ay h;have a1:=pj hL h1;split at h
       . obtain⟨_,_,h2,h⟩:=PR.ay h;obtain⟨_,_,h3,h⟩:=PR.ay h;obtain⟨_,_,h4,h⟩:=PR.ay h;obtain⟨b1,b2,b3⟩:=iR h2;obtain⟨m,⟨ts,e1,o1,k1,l1⟩,q2,q3,q4,q5⟩:=iG h3 b1.n d6 d6 b3;have:=et h4;obtain⟨rfl,rfl⟩:=PR.cr h;exact⟨pL ts e1 o1 rfl (zC a1.2.2.1 a1.2.2.2) (uT (tH (c:=lh) k1) (by simp;omega) (by simp;omega)) rfl,d6,d6⟩
       . obtain⟨rfl,rfl⟩:=PR.cr h;exact⟨lR rfl (zC a1.2.2.1 a1.2.2.2) rfl rfl,d6,d6⟩
   . intro i acc m j ns h ha hm Ml hi;rw[ki]at h;split at h
     . obtain⟨_,_,h1,h⟩:=PR.ay h;obtain⟨a1,a2,a3⟩:=iR h1;obtain⟨m',q1,q2,q3,q4,q5⟩:=iG h (ha.snoc a1) d6 d6 a3;exact⟨m',q1,q2,q3,d6,q5⟩
     . obtain⟨rfl,rfl⟩:=PR.cr h;exact⟨m,ha,hm,Ml,da _,hi⟩
   . intro i j ns h;rw[jX]at h;split at h
     . obtain⟨_,_,h1,h⟩:=PR.ay h;obtain⟨_,_,h2,h⟩:=PR.ay h;obtain⟨_,_,h3,h⟩:=PR.ay h;obtain⟨_,_,h4,h⟩:=PR.ay h;have:=et h1;obtain⟨m,⟨ts,e1,o1,k1,l1⟩,q2,q3,q4,q5⟩:=Ir (λh=>Ph hL h) h2;have:=et h3;obtain⟨⟨t,e2,o2,k2⟩,q6,q7⟩:=iF h4;obtain⟨rfl,rfl⟩:=PR.cr h;refine⟨pL (ts++[t]) (by simp[e1,e2,Tre.pb]) (by simp[Tre.uk,o1,o2]) rfl tW ?_ rfl,d6,q7⟩;rw[List.map_append,List.map_singleton];rw[uS (tH (c:=(ku.kind 37).is) k1) (by simp;omega) (by simp;omega) rfl];exact vD k2
     split at h
     . obtain⟨_,_,h1,h⟩:=PR.ay h;obtain⟨_,_,h2,h⟩:=PR.ay h;obtain⟨_,_,h3,h⟩:=PR.ay h;obtain⟨_,_,h4,h⟩:=PR.ay h;obtain⟨_,_,h5,h⟩:=PR.ay h;obtain⟨_,_,h6,h⟩:=PR.ay h;obtain⟨_,_,h7,h⟩:=PR.ay h;obtain⟨_,_,h8,h⟩:=PR.ay h;have:=et h1;obtain⟨a1,a2,a3⟩:=iF h2;have:=et h3;have:=et h4;obtain⟨b1,b2,b3⟩:=Ph hL h5;have:=et h6;obtain⟨c1,c2,c3⟩:=iF h7;have:=et h8;obtain⟨rfl,rfl⟩:=PR.cr h;refine⟨adi (c1:=.term) (c2:=.kind 37) (c3:=.term) a1 b1 c1 rfl tW (λk1 k2 k3 g1 g2 g3=>?_) rfl,d6,d6⟩;rw[show [k1,k2,k3]=[k1]++[k2,k3] from rfl,uS (by simpa using g1) d8 d8 rfl,show [k2,k3]=[k2]++[k3] from rfl,uS (by simpa using g2) d8 d8 rfl];exact vD g3
     . obtain⟨a1,a2,a3⟩:=iT h;exact⟨a1.low λk hk=>by simp only[cP,lh,dU]at hk ⊢;omega,a2,a3⟩
def aeL(hL:∀t∈L,o4 t)(hn:L.length<=900){f:Nat}{ns:List Nd}(h:lH L E f i=.ok ns j):G1 L jI i ns j:=by
 unfold lH at h;split at h
 . obtain⟨_,_,h1,h⟩:=PR.ay h;obtain⟨_,_,h2,h⟩:=PR.ay h;obtain⟨_,_,h3,h⟩:=PR.ay h;obtain⟨_,_,h4,h⟩:=PR.ay h;have a1:=pj hL h1;have:=et h2;obtain⟨b1,b2,b3⟩:=Qb hL hn h3;have:=et h4;obtain⟨rfl,rfl⟩:=PR.cr h;exact⟨Bz (c1:=.type) b1 rfl (zC a1.2.2.1 a1.2.2.2) (λk hk=>vD hk) rfl,d6,d6⟩
 . obtain⟨k,p,h0,h⟩:=PR.ay h;obtain⟨_,_,h1,h⟩:=PR.ay h;obtain⟨_,_,h2,h⟩:=PR.ay h;obtain⟨_,_,h3,h⟩:=PR.ay h;obtain⟨_,_,h4,h⟩:=PR.ay h;obtain⟨_,_,h5,h⟩:=PR.ay h;obtain⟨_,_,h6,h⟩:=PR.ay h;obtain⟨_,_,h7,h⟩:=PR.ay h;obtain⟨_,_,h8,h⟩:=PR.ay h;obtain⟨_,_,h9,hz⟩:=PR.ay h;have hp:p=i+1/\(k=3\/k=4):=by
    split at h0
    . have:=PR.cr h0;omega
    . obtain⟨_,_,g1,g2⟩:=PR.ay h0;have:=dZ g1;have:=PR.cr g2;omega
   obtain⟨rfl,hk⟩:=hp;have h3':∀{a:List Nd}{j q:Nat},j<=L.length->(if bP L j dE=true then (PR.ok [] j:PR (List Nd)) else mF L (jM L E f) f j)=.ok a q->∃m,uG (ku.kind 5).is m a/\m<=q/\j<=q/\q<=L.length:=λhj h=>by
    split at h
    . obtain⟨rfl,rfl⟩:=PR.cr h;exact⟨0,.nil,d6,da _,hj⟩
    . obtain⟨m,q1,q2,q3,q4,q5⟩:=Ir (λh=>aby hL hn h) h;exact⟨m,q1,q3,d6,q5⟩
   have a1:=pj hL h1;have:=et h2;obtain⟨m,⟨ts,e1,o1,k1,l1⟩,q3,q4,q5⟩:=h3' d6 h3;have:=et h4;have:=et h5;obtain⟨⟨t2,e2,o2,k2⟩,b2,b3⟩:=Ei hL h6;have:=et h7;obtain⟨⟨t3,e3,o3,k3⟩,c2,c3⟩:=(ags hL hn f).1 h8;have:=et h9;obtain⟨rfl,rfl⟩:=PR.cr hz;have hf:bS k=some ⟨true,false,false,[⟨.kind 5,0,900⟩,⟨.base,1,1⟩,⟨.term,1,1⟩]⟩:=by
    rcases hk with rfl|rfl<;>rfl
   refine⟨pL (ts++[t2,t3]) (by simp[e1,e2,e3,Tre.pb]) (by simp[Tre.uk,o1,o2,o3]) hf (zC a1.2.2.1 a1.2.2.2) ?_ (by rcases hk with rfl|rfl<;>rfl),d6,d6⟩
   rw[List.map_append];rw[uS (tH (c:=(ku.kind 5).is) k1) d8 (by simp;omega) rfl];rw[show [t2,t3].map Tre.kind=[t2.kind]++[t3.kind] from rfl,uS (λk hk=>by simp only[lT]at hk;subst hk;exact k2) d8 d8 rfl];exact vD k3
end
def Z9{l:List Nd}{m:Nat}(h:uG jI m l)(hm:m<=900):iU (node 1 [] 0 0 0 l)=if 900<(node 1 [] 0 0 0 l).length\/qX (node 1 [] 0 0 0 l)=true then 5 else 0:=by
 obtain⟨ts,e1,o1,k1,l1⟩:=h;have p6:node 1 [] 0 0 0 l=(Tre.mk 1 [] 0 0 0 ts).flat:=by rw[Tre.gQ,e1];rfl
 have dG:(Tre.mk 1 [] 0 0 0 ts).ok:=by
  rw[Tre.ok];have hf:bS 1=some ⟨false,false,false,[⟨.item,0,900⟩]⟩:=rfl;have:=uT (c:=.item) (lo:=0) (hi:=900) (tH (c:=jI) k1) d8 (by simp;omega);simp only[hf,tW,this,o1,Bool.and_self]
 rw[p6]
 by_cases h9:900<(Tre.mk 1 [] 0 0 0 ts).flat.length
 . rw[if_pos (.inl h9)];unfold iU;rw[if_pos h9]
 . rw[yL _ h9];unfold uP;rw[if_neg (by simp[Tre.kind,dG]),EU]
   by_cases hg:60<(Tre.mk 1 [] 0 0 0 ts).deep\/24<(Tre.mk 1 [] 0 0 0 ts).kids.length
   . rw[if_pos hg,if_pos (.inr (by simpa using hg))]
   . rw[if_neg hg,if_neg (λh=>hg (by rcases h with h|h;exact absurd h h9;simpa using h))]
end Go.Rip
namespace Go.Rip
open Go.Proofs Go.RowKit
section
variable {aj U:St}{v y:AV}{e:TypeId}{sz n m:Nat}{l l2:List AV}{K':am}{Kp:am}
def Z7(h:gi aj U v e sz n l)(hy:qD U y=some (m,l2))(hl:l2.length=m*sz)(hb:n+m<=4294967296)
 (hk:∀aa v',gi aj aa v' e sz (n+m) (l++l2)->(∀b x,(∀n l,v≠.vec n (.own b) l)->U.live b=some x->aa.live b=some x)->K' v' aa):(dH (some (e,sz)) false v y U).wp K U K' Kp:=by
 by_cases hm:0<m
 . exact yC h hy hl hm hb hk
 . have hm:m=0:=by omega
   subst hm;have qI:l2=[]:=ti.1 d6;subst qI;have Av:∀aa v',gi aj aa v' e sz n l->(∀b x,(∀n l,v≠.vec n (.own b) l)->U.live b=some x->aa.live b=some x)->K' v' aa:=λaa v' g=>hk aa v' (by simpa using g);rcases h.g with ⟨rfl,rfl,rfl⟩|⟨τ,rfl,ht,yU⟩
   . simp only[dH,hy,if_true,wp_cond,ad];exact⟨d8,Av _ _ h λ_ _ _ hx=>hx⟩
   . have Ay:n≠0:=λe=>by have:=h.z e;cases this
     simp only[dH,hy,wp_cond];refine⟨d8,⟨ht,yU,hb⟩,λb fi=>?_⟩;have hf:(U.del τ).live b=none:=fi.1;have qH:∀c x,c≠τ->U.live c=some x->((U.del τ).new b (.tok ⟨n,e,sz⟩)).live c=some x:=λc x hc hx=>by
      refine (bK fi) c x ?_;show (U.del τ).live c=some x;rw[jv,if_neg hc];exact hx
     refine Av _ _ ⟨.inr ⟨b,?_,Cc,yU⟩,λhz=>absurd hz Ay,λn' wZ l' hv=>?_,λc x hx=>?_⟩ λc x hc hx=>?_
     . show AV.vec (n+0) (.own b) (l++[])=_;simp
     . simp only[NV.at,AV.vec.injEq,nj.own.injEq]at hv;rw[<-hv.2.1]
       by_cases TT:b=τ
       . subst TT;exact h.t _ _ _ rfl
       . rw[jv,if_neg TT]at hf;exact h.ex.fresh hf
     . refine qH c x (λe=>?_) (h.ex c x hx);subst e;rw[h.t _ _ _ rfl]at hx;cases hx
     . exact qH c x (λe=>hc n l (by rw[e])) hx
end
def gi.ir{aj U:St}{v:AV}{ns:List Nd}(h:gi aj U v 43 6 ns.length (bM ns)):jE U v ns:=by
 rcases h.g with ⟨h1,h2,h3⟩|⟨τ,r1,_,_⟩
 . exact .inl (.inl ⟨h3,ti.1 h1⟩)
 . exact .inl (.inr ⟨_,r1⟩)
def jJ{s:aT}(h:gr s):s.length<=12:=by
 unfold gr at h;rw[dU]at h;rcases rz h with h|h|h|h
 . exact h.2.2.1
 . omega
 . omega
 . omega
def DA:∀(N:Nat)(ts:List Tre),(Tre.cH ts).length<=N->Tre.wk ts->∀x∈Tre.cH ts,x.text.length<=12
 | _,[],_,_=>by simp
 | 0,t::ts,hN,_=>by have:=t.eC;simp only[Tre.dT,dx]at hN;omega
 | N+1,.mk k tx n m a ks::ts,hN,ho=>by
   simp only[Tre.dT,Tre.gQ,dx,jm]at hN;rw[Tre.u9,Tre.ok]at ho;simp only[cS]at ho;obtain⟨⟨h1,h2⟩,h3⟩:=ho;have e1:=DA N ks d6 h2;have e2:=DA N ts d6 h3;intro x hx;simp only[Tre.dT,Tre.gQ,ke,dy,gV]at hx;rcases hx with rfl|hx|hx
   . split at h1
     . rename_i f hf;simp only[fx,cS]at h1;obtain⟨⟨⟨⟨⟨⟨g1,g2⟩,g3⟩,g4⟩,g5⟩,g6⟩,g7⟩:=h1;cases PF:f.text with
       | true =>
         rw[PF]at g2;exact jJ (by simpa using g2)
       | false =>
         rw[PF]at g1;have:tx=[]:=by simpa using g1
         simp[this]
     . cases h1
   . exact e1 x hx
   . exact e2 x hx
def UC{c:Int->Bool}{m:Nat}{l:List Nd}(h:uG c m l):∀x∈node 1 [] 0 0 0 l,x.text.length<=100000:=by
 obtain⟨ts,e1,o1,_,_⟩:=h;intro x hx;simp only[node,dy]at hx;rcases hx with rfl|hx
 . simp
 . rw[e1]at hx;have:=DA _ ts (da _) o1 x hx;omega
def Sw{U:St}{b n:Nat}{l:List Nd}(hb:U.box b=some (bM l))(hn:l≠[]):resolve (n+2) U (.ms b 0 l.length 6 43)=gq l:=by
 show (match U.box b with|some c=>AV.vec l.length .lC ((c.map (resolve (n+1) U)).drop 0)|none=>.any)=_
 rw[hb];simp only[eR,zR];unfold gq;rw[if_neg hn]
def VB{U:St}{v9:AV}{acc:List Nd}{m:Nat}{R:bi}(hk:jE U v9 acc)(hi:uG jI m acc)(hm:m<=900)(hl:acc.length<=40000)
 (A:AV->am) (hA:∀nZ b aa,U.live nZ=none->U.live b=none->dt U aa->aa.box nZ=some [.ms b 0 (acc.length+1) 6 43]->aa.box b=some (bM (node 1 [] 0 0 0 acc))->A (.box nZ 0) (bv (iU (node 1 [] 0 0 0 acc))) aa) :
 (cx (some [(0,1),(1,1),(2,1),(3,1),(4,1),(5,1)]) (some [co 0,AV.str [],bv 0,bv 0,bv 0,bv 0]) none [(0,(co 1))]).wp K U (λv46 U =>
   (ai (some (23,1)) (some [AV.af]) 1 false [(0,v9)]).wp K U (λsM U =>
   ag K 60 [v46,sM] U (bD (λv49 U =>
   (cx (some [(0,1)]) (some [AV.af]) none [(0,v49)]).wp K U (λux U =>
   (aW.mU [AV.af]).wp K U (λv10 U =>
   (dD (some (true,1)) v10 ux U).wp K U (λ_ U =>
   (bj (some (true,1)) v10 U).wp K U (λv51 U =>
   ag K 31 [v51] U (bD (λCB U=>A v10 CB U) (aD R))) (aD R)) (aD R)) (aD R)) (aD R)) (aD R))) (aD R)) (aD R):=by
 refine jC [co 1,.str [],bv 0,bv 0,bv 0,bv 0] rfl ?_;refine EI hk.dC.1 hk.dC.2 ?_;refine M7 (vs:=[v9]) (nss:=[acc]) (.inr ⟨.full,rfl⟩) ⟨rfl,λi v l h1 h2=>?_⟩ (by simp;omega) d8 λb aK fb hb e1=>?_
 . match i,h1,h2 with
   | 0,h1,h2=>cases h1;cases h2;exact hk
   | i+1,h1,h2=>simp at h1
 have p6:[acc].flatten=acc:=by simp
 rw[p6]at hb ⊢;have hlen:(node 1 [] 0 0 0 acc).length=acc.length+1:=rfl;simp only[bh,hlen];refine jC [.ms b 0 (acc.length+1) 6 43] rfl ?_;rw[dh];intro nZ C6;have m10:(aK.new nZ (.box [.af])).box nZ=some [.af]:=aH;have e2:=e1.new C6 (x:=.box [.af]);have iq:=(bK C6 (x:=.box [.af])).bq hb;have n10:=C6.cA hb;have f10:=e1.fresh C6.1;generalize aK.new nZ (.box [.af])=aV at *;rw[cV m10];refine⟨⟨rfl,rfl,d8⟩,?_⟩;have g10:(aV.set nZ (.box (ax [.af] 0 (al (.agg [.ms b 0 (acc.length+1) 6 43]))))).box nZ=some [.ms b 0 (acc.length+1) 6 43]:=by rw[aZ];rfl
 have kF:(aV.set nZ (.box (ax [.af] 0 (al (.agg [.ms b 0 (acc.length+1) 6 43]))))).box b=some (bM (node 1 [] 0 0 0 acc)):=by rw[bf n10];exact iq
 have e3:=e2.set f10 (x:=.box (ax [.af] 0 (al (.agg [.ms b 0 (acc.length+1) 6 43]))));generalize aV.set nZ (.box (ax [.af] 0 (al (.agg [.ms b 0 (acc.length+1) 6 43]))))=bG at *;rw[mK g10];refine⟨d8,?_⟩;have kI:List.take 1 (List.drop 0 [AV.ms b 0 (acc.length+1) 6 43])=[.ms b 0 (acc.length+1) 6 43]:=rfl;rw[kI];refine Po (l:=node 1 [] 0 0 0 acc) (.inr ⟨b,rfl,kF⟩) (by rw[hlen];omega) (UC hi) λcI e4=>?_;exact hA nZ b cI f10 fb (e3.trans e4) (e4.bq g10) (e4.bq kF)
def SV{l:List Nd}{m:Nat}(h:uG jI m l)(hm:m<=900):(lr l).2=iU (node 1 [] 0 0 0 l)/\(lr l).1=if iU (node 1 [] 0 0 0 l)=0 then node 1 [] 0 0 0 l else []:=by
 have:=Z9 h hm;unfold lr;rw[this];split
 . exact⟨rfl,d8⟩
 . exact⟨rfl,d8⟩
def abp{U:St}{b:Nat}{l:List Nd}(hb:U.box b=some (bM l))(hn:l≠[])(p e:AV)(hp:∀n,resolve (n+1) U p=p)(he:∀n,resolve (n+1) U e=e):resolve 5 U (.az [.agg [.ms b 0 l.length 6 43],p,e])=.az [.agg [gq l],p,e]:=by
 show AV.az [.agg [resolve 3 U (.ms b 0 l.length 6 43)],resolve 4 U p,resolve 4 U e]=_;rw[Sw (n:=1) hb hn,hp,he]
def OZ(s:aT)(hs:s.length<=3000):Pure K 19 [.str s] (Hp (nL s)):=by
 refine Pure.of' rfl (by simp[Hp,closed,cW,vC]) λR hR=>?_;refine abW ?_;dsimp only[adq,ae,bg,ak,fw,oR,aQ,ah,dj,ar,ca,dI,cJ,cG,ej,aC,dm,dr,dA];rw[dh];intro b2 iq;have m2:((cj ⟨.e,0⟩).new b2 (.box [.af])).box b2=some [.af]:=aH;generalize (cj _).new b2 _=aj at *;clear iq;have agd:∀(aa:St)(p e:AV),(∃x,aa.box b2=some [x])->(∀jn,resolve 5 jn (.az [.agg [.af],p,e])=Hp (nL s)) ->
  (cx (some [(0,1)]) (some [AV.af]) none []).wp K aa (λv20 U=>(dD (some (true,1)) (.box b2 0) v20 U).wp K U (λ_ U =>
  fV (some (true,1)) (.box b2 0) U λr0=>aq R (AV.az [r0,p,e]) U) (aD R)) (aD R):=by
  intro aa p e ⟨x,hx⟩ hp;refine jC [.af] rfl ?_;rw[cV hx];refine⟨⟨rfl,rfl,d8⟩,?_⟩;rw[rP aZ];exact⟨by simp[ax],aq.mk (hR _ _ (hp _))⟩
 refine (DS s hs).go ?_;cases hl:lF s with
 | bad p e =>
   have he:=FP hl;simp only[qh,bN,List.drop,bI,ck,ad,he,cZ,dS];refine cO (agd aj _ _ ⟨_,m2⟩ λjn=>?_);unfold nL;rw[hl];rfl
 | ok L =>
   simp only[qh,bN,List.drop,bI,ck,ad,cC,cL];refine cz ?_;have pc:=(IT L).dC;refine jC [pz L,bv 0,.bool false] (by simp[ta,pc,ax]) ?_;rw[fg rfl];intro r hr;have yV:nL s=match ri (sr s L hl).L (sr s L hl).E ((sr s L hl).L.length+1) [] 0 with
    | .ok l _=>((lr l).1,0,(lr l).2)
    | .bad j=>([],cT (sr s L hl).L s.length j,4)
    | .out=>([],0,0):=by unfold nL;rw[hl];rfl
   have hr0:(aj.new r (.box (al (.agg [pz L,bv 0,.bool false])))).box r=some (rr (sr s L hl) 0 false):=aH;have kK:b2≠r:=hr.cA m2;have UQ:=(bK hr (x:=.box (al (.agg [pz L,bv 0,.bool false])))).bq m2;generalize aj.new r (.box (al (.agg [pz L,bv 0,.bool false])))=aK at *;have htv:pz L=(sr s L hl).tv:=rfl;rw[htv];clear htv;generalize sr s L hl=X at *;clear hr m2 pc;have lg:=X.small;have cD:∀aV:St,(∃x,aV.box b2=some [x])->True:=λ_ _=>trivial;refine⟨λm v0 v2 v5 v8 v9 aa=>∃(i f:Nat)(acc:List Nd)(q:Nat)(Od:St),m=X.L.length-i/\v0=.str s/\v2=.box b2 0/\v5=X.tv/\v8=.box r 0/\i<=X.L.length/\X.L.length-i<f/\ri X.L X.E f acc i=ri X.L X.E (X.L.length+1) [] 0/\acc.length<=i/\uG jI q acc/\q<=i/\gi Od aa v9 43 6 acc.length (bM acc)/\Od.live r=none/\Od.live b2=none/\aa.box r=some (rr X i false)/\(∃x,aa.box b2=some [x]),
    ⟨_,0,X.L.length+1,[],0,cj ⟨.e,0⟩,rfl,rfl,rfl,rfl,rfl,d6,d6,rfl,d8,.nil,d8,.nil (λb x hx=>by cases hx),rfl,rfl,hr0,_,UQ⟩,?_⟩
   clear hr0 UQ;rintro m v0 v2 v5 v8 v9 aV ⟨i,f,acc,q,Od,rfl,rfl,rfl,rfl,rfl,hi,hf,hit,uX,aaZ,hqi,hg,Mb,C7,hr,iq⟩;have gk:dK (some false) X.tv=.val (bv X.L.length):=X.tr.len;simp only[bL,ad,aP,cK];refine dN hr rfl ?_;rw[gk,ad];cases f with
   | zero=>omega
   | succ f =>
   rw[ri]at hit;refine yE (λaA=>?_) λgL=>?_
   . have aA:i<X.L.length:=by omega
     rw[if_pos aA]at hit;have hE:lH X.L X.E (fuel X.L) i=lH X.L 0 (fuel X.L) i:=aeK _ _;rw[hE]at hit;have PD:=aeM (X:=X) (f:=fuel X.L) hi (by unfold fuel;omega) (by unfold fuel;omega);have kH:acc.length<=900:=by omega
     refine PD.ct r aV _ false (lH X.L 0 (fuel X.L) i) hr (by simp[Sp]) ⟨λns j hp hj b bG GQ hb A=>?_,λns j hp eF hj G2 b bG GQ hb A=>?_⟩
     . simp only[bh];have hlen:=PD.len ns j hp;have akW:b≠r:=λe=>by rw[e]at GQ;exact cN hr GQ
       have xX:gi Od bG v9 43 6 acc.length (bM acc):=by
        refine⟨hg.g.jW hr A,hg.z,hg.t,λc x hx=>A.ex c x (λe=>?_) (hg.ex c x hx)⟩;rw[e,Mb]at hx;cases hx
       refine Z7 (m:=ns.length) (l2:=bM ns) xX (jE.src (.inr ⟨b,rfl,hb⟩)) (by rw[gb];omega) d6 λcI v' g4 k4=>?_;obtain⟨kb,_⟩:=ly xX.g k4;have Mu:=kb A.box;refine dN Mu rfl (cz ?_);have Rz:=aeL X.ok lg hp;rw[hp]at hit;obtain⟨x,hx⟩:=iq;refine⟨X.L.length-j,by have:=Rz.2.1;omega,j,f,acc++ns,q+1,Od,rfl,rfl,rfl,rfl,rfl,hj,by have:=Rz.2.1;omega,hit,by simp;omega,aaZ.snoc Rz.1,by have:=Rz.2.1;omega,by simpa [vL] using g4,Mb,C7,Mu,x,kb (A.ex.bq kK hx)⟩
     . simp only[bh];have xX:gi Od bG v9 43 6 acc.length (bM acc):=by
        refine⟨hg.g.jW hr A,hg.z,hg.t,λc x hx=>A.ex c x (λe=>?_) (hg.ex c x hx)⟩;rw[e,Mb]at hx;cases hx
       refine Z7 (m:=ns.length) (l2:=bM ns) xX (jE.src (.inr ⟨b,rfl,hb⟩)) (by rw[gb];omega) d6 λcI v' g4 k4=>?_;obtain⟨kb,_⟩:=ly xX.g k4;have Mu:=kb A.box;refine dN Mu rfl (cO ?_);refine jC [.af] rfl ?_;refine afn hj Mu λdc e5=>?_;simp only[bh,GF,List.drop,bI];obtain⟨x,hx⟩:=iq;rw[cV (e5.bq (kb (A.ex.bq kK hx)))];refine⟨⟨rfl,rfl,d8⟩,?_⟩;rw[rP aZ];refine⟨by simp[ax],aq.mk (hR _ _ ?_)⟩;rw[yV,<-hit,hp];rfl
   . rw[if_neg d6]at hit;have mE:i=X.L.length:=by omega
     subst mE;obtain⟨x,hx⟩:=iq;refine VB (m:=q) hg.ir aaZ d6 d6 _ λnZ b bG f10 fb e3 m10 mb=>?_;obtain⟨w2,w1⟩:=SV aaZ d6;rw[<-hit]at yV;simp only at yV;have PW:=e3.bq hx;refine HQ ?_
     by_cases hc:iU (node 1 [] 0 0 0 acc)=0
     . simp only[hc,cC,cL];refine cz ?_;rw[mK m10];refine⟨d8,?_⟩;rw[cV PW];have nb:b2≠b:=λe=>by rw[<-e]at fb;exact cN hx fb
       refine⟨⟨rfl,rfl,d8⟩,?_⟩;rw[rP aZ];refine⟨by simp[ax],aq.mk (hR _ _ ?_)⟩;rw[if_pos hc]at w1;rw[yV,w1,w2,hc];refine (abp (l:=node 1 [] 0 0 0 acc) (by rw[bf nb.symm];exact mb) (by simp[node]) _ _ (λ_=>rfl) λ_=>rfl)
     . simp only[hc,cZ,dS];refine cO (agd bG _ _ ⟨x,PW⟩ λjn=>?_);rw[if_neg hc]at w1;rw[yV,w1,w2];rfl
def M4(U:St)(l:List Nd):jE U (gq l) l:=by
 unfold gq;split
 . rename_i h;subst h;exact .inl (.inl ⟨rfl,rfl⟩)
 . exact .inl (.inr ⟨_,rfl⟩)
def VD(l1 l2:List Nd)(h1:l1.length<=1000000)(h2:l2.length<=1000000):Pure K 22 [.agg [gq l1],.agg [gq l2]] (.bool (decide (l1=l2))):=by
 refine Pure.of (by simp[cW,closed,vC]) rfl (λU=>rfl) λR hR=>?_;refine NG ?_;dsimp only[SF,ae,bg,ah,dI];rw[fg rfl];intro b1 gz;rw[fg rfl];intro b2 iq;have m1:((cj ⟨.e,0⟩).new b1 (.box (al (.agg [gq l1])))).box b1=some [gq l1]:=aH;have MV:=(bK iq (x:=.box (al (.agg [gq l2])))).bq m1;have m2:(((cj ⟨.e,0⟩).new b1 (.box (al (.agg [gq l1])))).new b2 (.box (al (.agg [gq l2])))).box b2=some [gq l2]:=aH;generalize ((cj _).new b1 _).new b2 _=U at *;simp only[aP,ad,cK];refine dN MV rfl ?_;refine dN m2 rfl ?_;exact Qw (M4 _ _) (M4 _ _) h1 h2 (aq.mk (hR _))
def SW(l:List Nd):(lr l).1.length<=900:=by
 unfold lr
 by_cases h:900<(node 1 [] 0 0 0 l).length\/qX (node 1 [] 0 0 0 l)
 . rw[if_pos h];simp
 . rw[if_neg h];have:¬ 900<(node 1 [] 0 0 0 l).length:=λe=>h (.inl e);simp only;omega
def Sb(s:aT):(nL s).1.length<=1000000:=by
 unfold nL;cases lF s with
 | bad p e=>simp
 | ok L =>
   simp only;cases ri L s.length (L.length+1) [] 0 with
   | ok l j=>have:=SW l;simp only;omega
   | bad j=>simp
   | out=>simp
end Go.Rip
