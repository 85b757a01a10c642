import Derived.Test.YtnfpmiiopiinbaaGreatDoorO
import Derived.Test.YtnfpmiiopiinbaaGreatDoorP
import Derived.Test.YtnfpmiiopiinbaaGreatDoorK
set_option linter.all false
namespace Go.Rip
open Go.Proofs Go.RowKit
def dv(x:Nd):List AV:=[co x.kind,.str x.text,bv x.n,bv x.m,bv x.at_,bv x.size]
def bM(l:List Nd):List AV:=l.flatMap dv
def vL(l l':List Nd):bM (l++l')=bM l++bM l':=by simp[bM]
def gb(L:List Nd):(bM L).length=6*L.length:=by
 induction L with
 | nil=>rfl
 | cons t L ih =>
   have:(bM (t::L)).length=6+(bM L).length:=by simp[bM,dv];omega
   rw[this,ih,jm];omega
def UW(L:List Nd)(i:Nat):(bM L).drop (i*6)=bM (L.drop i):=by
 induction L generalizing i with
 | nil=>simp[bM]
 | cons t L ih =>
   cases i with
   | zero=>simp
   | succ i =>
     rw[Nat.add_mul,show i*6+1*6=6+i*6 by omega,<-List.drop_drop,List.drop_succ_cons,<-ih];rfl
def AM{L:List Nd}{i:Nat}{t:Nd}(h:L[i]?=some t):∃r,(bM L).drop (i*6)=dv t++r:=by
 rw[UW,gI (dw.1 h).1];refine⟨bM (L.drop (i+1)),?_⟩;have:=(dw.1 h).2;simp[bM,this]
section
variable {C:dQ}{U:St}{K':am}{Kp:am}{e sz n b m:Nat}{L l2 z:List AV}{y:AV}
def zt{ps:List (Nat×AV)}:(ai (some (e,sz)) (some z) n true ps).wp C U K' Kp=(n*sz<=16777216/\(ja (λi=>some (i*sz,sz)) ps (bZ n z) λcs=>.cond (cs.length=n*sz) (.rJ n sz e none cs)).wp C U K' Kp):=by
 simp only[ai,if_true];rfl
def EJ{pl:Nat->Option (Nat×Nat)}{k:Nat}:(ja pl [] L λcs=>.cond (cs.length=k) (.rJ n sz e none cs)).wp C U K' Kp=(L.length=k/\∀b,U.eO b->K' (.ms b 0 n sz e) (U.new b (.box L))):=rfl
def HO{mu:Bool}(hb:U.box b=some L)(hy:qD U y=some (m,l2))(h:l2.length=m*sz/\n*sz<=L.length/\n+m<=4294967296)(hk:∀b',(U.del b).eO b'->K' (.ms b' 0 (n+m) sz e) ((U.del b).new b' (.box (L.take (n*sz)++l2)))):(dH (some (e,sz)) mu (.ms b 0 n sz e) y U).wp C U K' Kp:=by
 simp only[dH,hy,hb,wp_cond];exact⟨h.1,⟨trivial,trivial,trivial,h.2.1,h.2.2⟩,hk⟩
end
def ag.akC{C:dQ}{f:FuncId}{args:List AV}{U:St}{R:bi}(h:ag C f args U λr τ=>match r with
 | .ret x=>aq R x τ
 | .panic x=>R (.panic x) τ):ag C f args U R:=by
 intro g w vs hs hG ha;refine (h g w vs hs hG ha).mono ?_;rintro e w' hp;cases e with
 | panicked ch=>exact hp
 | outgrown=>exact hp
 | returned v =>
   obtain⟨g',aa,x,h1,h2,h3,y,aV,ht,hR⟩:=hp;obtain⟨g2,k1,k2,k3⟩:=ht g' w' v h2 h3;exact⟨g2,aV,y,h1.trans k1,k2,k3,hR⟩
def Gs(aj U:St)(v:AV)(l:List Nd):Prop:=(v=.af/\l=[])\/∃b,v=.ms b 0 l.length 6 43/\U.box b=some (bM l)/\aj.live b=none/\l≠[]
def Ptr(U:St)(p:AV)(cs:List AV):Prop:=p=.dJ cs\/∃b,p=.box b 0/\U.box b=some cs
def Ee(a:AV)(l:List Nd):Prop:=∀(U:St)(R:bi),(∀aa,dt U aa->R (.ret (.vec l.length .lC (bM l))) aa)->ag K 110 [a] U R
variable {ks:List AV}
def fH.split{l:List Nd}{a:AV}{i:Nat}(h:fH true (ks.drop i) l)(ha:ks[i]?=some a):∃l1 l2,l=l1++l2/\fH false [a] l1/\fH true (ks.drop (i+1)) l2:=by
 obtain⟨aA,rfl⟩:=dw.1 ha;rw[gI aA]at h;generalize hb:true=b at h;generalize hl:ks[i]::ks.drop (i+1)=la at h;cases h with
 | mk _ _=>cases hb
 | nil=>cases hl
 | cons h1 h2=>cases hl;exact⟨_,_,rfl,h1,h2⟩
def fH.aeZ{l:List Nd}(h:fH true [] l):l=[]:=by
 generalize hb:true=b at h;generalize hl:([]:List AV)=la at h;cases h with
 | mk _ _=>cases hb
 | nil=>rfl
 | cons _ _=>cases hl
def fH.le:∀{ks:List AV}{l:List Nd},fH true ks l->ks.length<=l.length
 | [],_,_=>by simp
 | a::ks,l,h=>by
   obtain⟨l1,l2,rfl,h1,h2⟩:=fH.split (ks:=a::ks) (a:=a) (i:=0) h rfl;obtain⟨x,r,e,_⟩:=h1.size;have:=fH.le (ks:=ks) h2;rw[e];simp;omega
def Hk{aj U:St}{R:bi}{l:List Nd}{b:Nat}{kind:Int}{text:aT}{n m at_:Int}{kv:AV}(hk:fH true ks l)(hl:l.length<=100000)(PA:∀a l1,fH false [a] l1->l1.length<=l.length->Ee a l1)
 (sF:ks=[]/\kv=.af\/∃c,kv=.vec ks.length c ks) (hb:U.box b=some [co kind,.str text,bv n,bv m,bv at_,bv 0]) (hn:aj.live b=none) (hE:dt aj U)
 (h:∀aa b',dt aj aa->aj.live b'=none->aa.box b'=some (bM (node kind text n m at_ l))->R (.ret (.ms b' 0 (l.length+1) 6 43)) aa) :
 (dK (some false) kv).wp K U (λnT U =>
 nh 4 [.ms b 0 1 6 43,kv,nT,(bv 0)] U λlp v3 ad8 ad9 A7 U =>
  (bU .lss (BT.mk false false false none false) false A7 ad9).wp K U (λzn U =>
  cX zn (
   (bJ (some (87,1)) none ad8 A7).wp K U (λzo U =>
   (bj (some (false,1)) zo U).wp K U (λrB U =>
   ag K 110 [rB] U (bD (λtO U =>
   (dH (some (43,6)) true v3 tO U).wp K U (λHJ U =>
   (bU .add (BT.mk false false false none false) true A7 (bv 1)).wp K U (λv24 U =>
   lp HJ ad8 ad9 v24 U) (aD R)) (aD R)) (aD R))) (aD R)) (aD R)) (
   (dK (some false) v3).wp K U (λA8 U =>
   (bJ (some (43,6)) none v3 (bv 0)).wp K U (λv28 U =>
   (bu (some 5) v28).wp K U (λsd U =>
   (dD (some (false,1)) sd A8 U).wp K U (λ_ U =>
   aq R v3 U) (aD R)) (aD R)) (aD R)) (aD R))) (aD R)) (aD R):=by
 have hlen:dK (some false) kv=.val (bv ks.length):=by
  rcases sF with ⟨rfl,rfl⟩|⟨c,rfl⟩<;>rfl
 rw[hlen,ad];refine⟨λmm v3 D5 nT A7 aa=>∃(i b':Nat)(acc rest:List Nd),mm=ks.length-i/\i<=ks.length/\v3=.ms b' 0 (acc.length+1) 6 43/\D5=kv/\nT=bv ks.length/\A7=bv (i:Nat)/\l=acc++rest/\fH true (ks.drop i) rest/\aa.box b'=some ([co kind,.str text,bv n,bv m,bv at_,bv 0]++bM acc)/\aj.live b'=none/\dt aj aa,
  ⟨_,0,b,[],l,rfl,d6,rfl,rfl,rfl,rfl,rfl,hk,by simpa [bM] using hb,hn,hE⟩,?_⟩
 rintro mm v3 D5 nT A7 aK ⟨i,b',acc,rest,rfl,hi,rfl,rfl,rfl,rfl,yT,GX,fi,Ax,Jn⟩;have ju:ks.length<=l.length:=hk.le;simp only[aY,ad,bp];refine⟨λaA=>?_,λgL=>?_⟩
 . have aA:i<ks.length:=by omega
   rcases sF with ⟨rfl,_⟩|⟨c,rfl⟩
   . simp at aA
   rw[sv];refine⟨d6,?_⟩;have hd:ks.drop ((i:Int).toNat*1)=ks[i]::ks.drop (i+1):=by rw[ez,Nat.mul_one];exact gI aA
   rw[hd,ln,bI];obtain⟨l1,l2,GZ,h1,h2⟩:=GX.split (a:=ks[i]) (by simp[aA]);have aik:l1.length<=l.length:=by rw[yT,GZ];simp;omega
   refine PA _ l1 h1 aik aK _ λaV e2=>?_;simp only[bh];have aa6:acc.length+l1.length<=l.length:=by rw[yT,GZ];simp
   refine HO (sz:=6) (m:=l1.length) (l2:=bM l1) (e2.bq fi) rfl ⟨by rw[gb];omega,by simp[gb];omega,d6⟩ λb2 hf=>?_;rw[cF];refine⟨aX d6 d6,ks.length-(i+1),d6,i+1,b2,acc++l1,l2,rfl,aA,?_,rfl,rfl,d8,by rw[yT,GZ];simp,h2,?_,?_,?_⟩
   . simp;omega
   . rw[aH,vL];have:(acc.length+1)*6=([co kind,.str text,bv n,bv m,bv at_,bv 0]++bM acc).length:=by simp[gb];omega
     rw[this,oO,lG]
   . have tF:((aV.del b').live b2)=none:=hf.1
     by_cases C7:b2=b'
     . rw[C7];exact Ax
     . rw[jv,if_neg C7]at tF;exact (Jn.trans e2).fresh tF
   . exact ((Jn.trans e2).del Ax).new hf
 . have hi:i=ks.length:=by omega
   subst hi;rw[List.drop_length]at GX;have:=GX.aeZ;subst this;rw[iM]at yT;subst yT;simp only[Dp,ad];rw[xr];refine⟨⟨d6,d6,rfl⟩,?_⟩;simp only[aP,ad,cK,show (0:Int).toNat*6=0 from rfl];rw[cV fi];refine⟨⟨rfl,rfl,d8⟩,?_⟩;have e:ax ([co kind,.str text,bv n,bv m,bv at_,bv 0]++bM l) 5 (al (bv ((l.length+1:Nat):Int)))=bM (node kind text n m at_ l):=by
    simp[ax,node,bM,dv]
   rw[e];exact aq.mk (h _ b' (Jn.set Ax) Ax aZ)
def Hl{U:St}{R:bi}{p:AV}{l:List Nd}{kind:Int}{text:aT}{n m at_:Int}{kv:AV}(hp:Ptr U p (oc kind text n m at_ kv))(hk:fH true ks l)(hl:l.length<=100000)(PA:∀a l1,fH false [a] l1->l1.length<=l.length->Ee a l1)
 (sF:ks=[]/\kv=.af\/∃c,kv=.vec ks.length c ks) (h:∀aa b',dt U aa->U.live b'=none->aa.box b'=some (bM (node kind text n m at_ l))->R (.ret (.ms b' 0 (l.length+1) 6 43)) aa):ag K 110 [p] U R:=by
 refine VY ?_;dsimp only[VX,di,ae,bg,ak,gX,aQ,ah,dj,ar,ca,cw,eN,cJ,cG,ej,cn,aC];rcases hp with rfl|⟨b,rfl,hb⟩
 . simp only[Cz,ad,dX,eR];rw[tP];refine⟨by simp[oc],?_⟩;rw[zt];refine⟨d6,?_⟩;rw[eg (o:=0) (s:=6) rfl];refine⟨⟨rfl,by simp[oc],by simp[bZ]⟩,?_⟩;rw[EJ];refine⟨rfl,λb hf=>?_⟩;simp only[oc,List.drop,ln,bI];exact Hk hk hl PA sF (aH) hf.1 ((dt.refl U).new hf) h
 . simp only[bL,ad,aP,cK];rw[mK hb];refine⟨by simp[oc],?_⟩;rw[zt];refine⟨d6,?_⟩;rw[eg (o:=0) (s:=6) rfl];refine⟨⟨rfl,by simp[oc],by simp[bZ]⟩,?_⟩;rw[EJ];refine⟨rfl,λb2 hf=>?_⟩;rw[gJ ((bK hf).bq hb)];simp only[oc,List.drop,bI];exact Hk hk hl PA sF (aH) hf.1 ((dt.refl U).new hf) h
def UZ{U:St}{R:bi}{p:AV}{l:List Nd}{kind:Int}{text:aT}{n m at_:Int}{kv:AV}(hp:Ptr U p (oc kind text n m at_ kv))(hk:fH true ks l)(hl:l.length<=100000)(PA:∀a l1,fH false [a] l1->l1.length<=l.length->Ee a l1)
 (sF:ks=[]/\kv=.af\/∃c,kv=.vec ks.length c ks) (h:∀aa,dt U aa->R (.ret (.vec (l.length+1) .lC (bM (node kind text n m at_ l)))) aa):ag K 110 [p] U R :=
 ag.akC (Hl hp hk hl PA sF λaa b' e f m=>⟨_,_,qz.aaN m,h _ (e.del f)⟩)
def J4:∀(N:Nat)(a:AV)(l:List Nd),fH false [a] l->l.length<=N->N<=100000->Ee a l
 | 0,a,l,h,hl,_=>by
   obtain⟨x,r,e,_⟩:=h.size;rw[e]at hl;simp at hl
 | N+1,a,l,h,hl,hN=>by
   generalize hb:false=b at h;generalize ha:[a]=la at h;cases h with
   | nil=>cases ha
   | cons _ _=>cases hb
   | mk h1 h2 =>
     cases ha;rw[cR]at hl;intro U R hR;exact UZ (.inl rfl) h1 d6 (λa l1 hk yU=>J4 N a l1 hk d6 d6) h2 hR
def dz.atN{v:AV}{l:List Nd}(h:dz v l.length (bM l)){i:Nat}{x:Nd}(hx:l[i]?=some x){e:Nat}:∃r,bJ (some (e,6)) none v (bv (i:Int))=.cond (0<=(i:Int)/\(i:Int)<l.length) (.val (.dJ (dv x++r))):=by
 obtain⟨c,rfl,nx⟩:=h.at (sz:=6) (e:=e) (dw.1 hx).1;obtain⟨r,hr⟩:=AM hx;exact⟨r,by rw[nx,hr]⟩
section
variable {C:dQ}{U:St}{K':am}{Kp:am}{k:AV->Prop}{v:AV}{l:List Nd}{i e:Nat}{x:Nd}
def IY(h:dz v l.length (bM l))(hx:l[i]?=some x)(hk:∀r,K' (.dJ (dv x++r)) U):(bJ (some (e,6)) none v (bv (i:Int))).wp C U K' Kp:=by
 obtain⟨r,hr⟩:=h.atN hx (e:=e);rw[hr];have:=(dw.1 hx).1;exact⟨d6,hk r⟩
def F1(h:dz v l.length (bM l))(hx:l[i]?=some x)(hk:∀r,k (.dJ (dv x++r))):bC C (bJ (some (e,6)) none v (bv (i:Int))) k:=by
 obtain⟨r,hr⟩:=h.atN hx (e:=e);rw[hr];have:=(dw.1 hx).1;exact⟨d6,hk r⟩
end
def dz.dC{v:AV}{n:Nat}{cs:List AV}(h:dz v n cs):v.dC/\al v=[v]:=by
 rcases h with ⟨rfl,rfl,rfl⟩|⟨c,rfl⟩<;>exact⟨rfl,rfl⟩
def BI{U:St}{R:bi}{v:AV}{l:List Nd}{n:Nat}{x:Nd}(hv:dz v l.length (bM l))(hx:l[n]?=some x)(h64:xG ((n:Int)+x.size))
 (h:∀bn be bt aa,bn≠be->bn≠bt->be≠bt->U.live bn=none->U.live be=none->U.live bt=none->aa.box bn=some [bv (n:Nat)]->aa.box be=some [bv ((n:Int)+x.size)]->aa.box bt=some [v]->dt U aa->R (.ret (.func (.func 155) [] [.box bn 0,.box be 0,.box bt 0])) aa):ag K 81 [.agg [v],bv (n:Nat)] U R:=by
 refine acy ?_;dsimp only[ad0,jN,lD,ah,dI,cn,dA,mX,od,mz,oe];rw[fg rfl];intro bt TT;rw[fg rfl];intro bn GQ;have mt:(U.new bt (.box (al (.agg [v])))).box bt=some [v]:=aH;have e1:=bK TT (x:=.box (al (.agg [v])));have fr1:U.live bt=none:=TT.1;generalize U.new bt (.box (al (.agg [v])))=aK at *;have e2:=bK GQ (x:=.box (al (bv (n:Nat))));have mn:(aK.new bn (.box (al (bv (n:Nat))))).box bn=some [bv (n:Nat)]:=aH;have ntn:=GQ.cA mt;have fr2:U.live bn=none:=e1.fresh GQ.1;generalize aK.new bn (.box (al (bv (n:Nat))))=aV at *;have mt2:=e2.bq mt;simp only[nM mn,eR,gg,aP,ao,cK,nM mt2];refine F1 hv hx λr=>?_;simp only[dX,ao,dv,ke,List.drop,oA,gg,BZ];refine⟨h64,?_⟩;rw[dh];intro be Aq;have e3:=bK Aq (x:=.box [bv 0]);have me:(aV.new be (.box [bv 0])).box be=some [bv 0]:=aH;have nne:=Aq.cA mn;have nte:=Aq.cA mt2;have fr3:U.live be=none:=(e1.trans e2).fresh Aq.1;refine⟨?_,?_⟩
 . intro b hb;simp only[cB,mQ,iM,dy,gV,List.not_mem_nil,or_false]at hb;have:b=bn\/b=bt:=by
    rcases hb with h|h|h<;>simp_all
   rw[oK];rcases this with rfl|rfl
   . rw[if_neg nne]
   . rw[if_neg nte]
 . rw[cV me];refine⟨⟨rfl,rfl,d8⟩,aq.mk (h bn be bt _ nne ntn.symm nte.symm fr2 fr3 fr1 ?_ ?_ ?_ ((e1.trans (e2.trans e3)).set fr3))⟩
   . rw[bf nne];exact e3.bq mn
   . rw[aZ];rfl
   . rw[bf nte];exact e3.bq mt2
def BE(l:List Nd)(en:Int):∀(f p:Nat),(ix l en f p).length<=f
 | 0,_=>by simp[ix]
 | f+1,p=>by
   simp only[ix];split
   . split
     . have:=BE l en f (p+(Nd.size ‹_›).toNat);simp;omega
     . simp
   . simp
def Hv{v:AV}{l:List Nd}{n:Nat}{en:Int}{bn be bt:Nat}{U:St}{B:AV->Qr->St->Prop}{Kn:St->Prop}{Ke:Nat->St->Prop}{Kr:St->Prop}{Kp:am}(I:List Nat->St->Prop)(J:St->Prop)
 (hv:dz v l.length (bM l)) (hn:n<l.length) (hlen:l.length<=100000) (hen:en<=l.length)
 (FL:∀ks U,I ks U->U.box bn=some [bv (n:Nat)]/\U.box be=some [bv en]/\U.box bt=some [v])
 (G0:∀ks U o L L',I ks U->U.loop o=some L->I ks (U.set o (.loop L')))
 (tb:∀ks U o L,I ks U->U.eO o->I ks (U.new o (.loop L)))
 (hJ:∀U o L L',J U->U.loop o=some L->J (U.set o (.loop L')))
 (body:∀(ks:List Nat)(ir:Nat)(x:Nd)(aK:St)(o:Nat)(L1:iu)(q:Qr),I ks aK->l[ir]?=some x->(ir:Int)<en->0<x.size->n<ir->ks.length<l.length->(∃r,ix l en l.length (n+1)=ks++ir::r)->aK.loop o=some L1 ->
   (∀aV,I (ks++[ir]) aV->x.size<=100000->aV.loop o=some L1->q.n aV)->(∀aV,J aV->aV.loop o=some L1->q.r aV)->B (bv (ir:Nat)) q aK)
 (fin:∀ks aK o L,ks=ix l en l.length (n+1)->I ks aK->aK.loop o=some L->Kn (aK.del o))
 (aaH:∀aK o L,J aK->aK.loop o=some L->Kr (aK.del o))
 (h0:I [] U):AR K 1 (.func (.func 155) [] [.box bn 0,.box be 0,.box bt 0]) U (λv q U=>q.Qe (λU=>B v q U) U) Kn Ke Kr Kp:=by
 refine⟨by kernel_rfl,λo L ho L6 TQ Y=>?_⟩;have I1:=tb _ _ o L h0 ho;have L8:=zL (U:=U) (b:=o) (L:=L);generalize U.new o (.loop L)=aK at *;refine Ki ?_;dsimp only[Ny,fR,eh,yG,se,cU,bg,ak,gX,aQ,ah,ar,ca,cw,eN,iH,bX,fW,aC];rw[gJ (FL _ _ I1).1,eR,bI,cF];refine⟨aX d6 d6,?_⟩;refine⟨λm v0 v2 v3 v5 aa=>∃ks f p,m=l.length-p/\v0=.uK o/\v2=.box be 0/\v3=.box bt 0/\v5=bv (p:Nat)/\n<p/\p<=300000/\l.length-p<=f/\ks++ix l en f p=ix l en l.length (n+1)/\I ks aa/\∃L1,aa.loop o=some L1/\L1.st .ready none=L/\L1.state=.ready/\L1.iL=none,
  ⟨_,[],l.length,n+1,rfl,rfl,rfl,rfl,d8,d6,d6,d6,rfl,I1,L,L8,by cases L;simp_all [iu.st],L6,TQ⟩,?_⟩
 clear I1 L8;rintro m v0 v2 v3 v5 aV ⟨ks,f,p,rfl,rfl,rfl,rfl,rfl,hnp,hp3,hf,ju,I2,L1,lz,ji,Fb,Fa⟩;obtain⟨k1,k2,k3⟩:=FL _ _ I2;rw[gJ k2,eR,bI];simp only[aY,ad,aF,aw];have stop:ix l en f p=[]->aq (Np o Kn Ke Kr Kp) (.az []) aV:=λh=>by
  rw[h,iM]at ju;refine aq.mk ⟨L1,lz,by rw[Fb];simp,?_⟩;rw[Fa];exact fin ks aV o L1 ju I2 lz
 by_cases aA:(p:Int)<en
 . have oy:p<l.length:=by omega
   obtain⟨x,hx⟩:∃x,l[p]?=some x:=⟨l[p],by simp[oy]⟩;cases f with
   | zero=>omega
   | succ f =>
   have Aw:ix l en (f+1) p=if 0<x.size then p::ix l en f (p+x.size.toNat) else []:=by
    simp only[ix,hx,aA,true_and]
   simp only[aA,cC,eG,bO,ao,aP,cK,nM k3,eR,gg,iI];refine F1 hv hx λr=>?_;simp only[dX,ao,iI,dv,ke,List.drop,oA,gg,dq,av,if_true,ad,bp];refine⟨λhs=>?_,λhs=>?_⟩
   . rw[if_pos hs]at Aw;simp only[kQ,Cf];refine Y _ _ _ L1 rfl lz ji ?_;refine⟨L1,lz,Fb,?_⟩;have I3:=G0 _ _ o L1 { L1 with state:=.busy } I2 lz
     have kH:ks.length<l.length:=by
      have:=BE l en l.length (n+1);rw[<-ju,Aw]at this;simp at this;omega
     refine body ks p x _ o { L1 with state:=.busy } _ I3 hx aA hs hnp kH ⟨_,by rw[<-ju,Aw]⟩ iD (λbG I4 ua wO=>?_) λbG hJ3 wO=>?_
     . refine⟨_,wO,?_⟩;have I5:=G0 _ _ o _ { L1 with state:=.ready,iL:=none } I4 wO
       obtain⟨j1,j2,j3⟩:=FL _ _ I5;simp only[bh,db,ad,cL,aG,aP,cK];rw[gJ j3,eR,bI];refine IY hv hx λr=>?_;simp only[dX,ad,dv,ke,List.drop,ln,bI,cF];refine⟨aX d6 d6,_,?_,ks++[p],f,p+x.size.toNat,rfl,rfl,rfl,rfl,?_,d6,d6,d6,?_,I5,_,iD,by rw[<-ji];rfl,rfl,rfl⟩
       . omega
       . congr 1;omega
       . rw[<-ju,Aw];simp
     . refine⟨_,wO,?_⟩;simp only[bh,db,ad,dS,aL];refine aq.mk ⟨_,iD,d8,?_⟩;exact aaH _ o _ (hJ _ o _ _ hJ3 wO) iD
   . rw[if_neg hs]at Aw;exact stop Aw
 . simp only[aA,cZ,show (false==true)=false from rfl,bB,av,bW,if_false,ad,aG];refine stop ?_;cases f with
   | zero=>rfl
   | succ f =>
     simp only[ix];split
     . rw[if_neg (λh=>aA h.1)]
     . rfl
def sx(aj U:St)(v:AV)(es:List Int):Prop:=(es=[]/\v=.af)\/∃b nJ,v=.ms b 0 es.length 1 3/\U.box b=some (es.map (.int .i64)++nJ)/\aj.live b=none
section
variable {aj U:St}{R:bi}{K':am}{Kp:am}
def adl{b:Nat}{n a:Int}(hb:U.box b=some [bv n])(h:R (.ret (.bool (decide (a<=n)))) U):ag K 133 [bv a,.box b 0] U R:=by
 refine WI ?_;dsimp only[WH,ah,ca,iH];rw[gJ hb,eR,bI];simp only[iC,ad];exact aq.mk h
def aiZ{b:Nat}{L:List AV}{es:List Int}{nJ:List AV}(h:U.box b=some L)(hL:L=es.map (.int .i64)++nJ){i n:Nat}(hi:i<es.length)(hn:i<n)(hk:K' (bv es[i]) U) :
 (bJ (some (3,1)) none (.ms b 0 n 1 3) (bv (i:Nat))).wp K U (λv U=>(bj (some (false,1)) v U).wp K U K' Kp) Kp:=by
 rw[xr];refine⟨⟨d6,d6,rfl⟩,?_⟩;rw[gJ h];have:L.drop (0+(i:Int).toNat*1)=bv es[i]::((es.map (AV.int .i64)).drop (i+1)++nJ):=by
  rw[hL,ez,Nat.mul_one,cK,List.drop_append_of_le_length (by simp;omega),gI (by simpa using hi)];simp
 rw[this,bI];exact hk
def JI{b bn:Nat}{es:List Int}{nJ:List AV}{n:Int}(hb:U.box b=some (es.map (.int .i64)++nJ))(hn:U.box bn=some [bv n])(hl:es.length<=100000)
 (h:(∃k,k<es.length/\(es.take k).all (λa=>decide (n<a))/\(∃hk:k<es.length,es[k]<=n)/\R (.ret (bv (k:Nat))) U)\/(es.all (λa=>decide (n<a))/\R (.ret (bv (-1))) U)) :
 ag K 210 [.ms b 0 es.length 1 3,.func (.func 133) [] [.box bn 0]] U R:=by
 refine Ko ?_;dsimp only[ND,di,ak,gX,aQ,ah,ar,ca,cJ,aC];simp only[Dp,ad];refine⟨λm v0 v1 v7 v8 aa=>∃i:Nat,m=es.length-i/\i<=es.length/\v0=.ms b 0 es.length 1 3/\v1=.func (.func 133) [] [.box bn 0]/\v7=bv es.length/\v8=bv i/\aa=U/\(es.take i).all (λa=>decide (n<a)),⟨_,0,rfl,d6,rfl,rfl,rfl,rfl,rfl,d8⟩,?_⟩;rintro m v0 v1 v7 v8 aa ⟨i,rfl,hi,rfl,rfl,rfl,rfl,rfl,cg⟩;simp only[aY,ad,bp];have Jq:∀(k:Nat)(hk:k<es.length),(es.take i).all (λa=>decide (n<a))->k<i->n<es[k]:=λk hk ha PH=>by
  rw[fQ]at ha;have:es[k]∈es.take i:=by
   rw[List.mem_iff_getElem];exact⟨k,by simp;omega,d8⟩
  simpa using ha _ this
 refine⟨λaA=>?_,λgL=>?_⟩
 . have aA:i<es.length:=by omega
   refine aiZ hb rfl aA aA ?_;simp only[kQ,show gP K.P 133 by kernel_rfl,if_true,nU,mQ,ke];refine adl hn ?_;simp only[bh,bp];refine⟨λhle=>?_,λAu=>?_⟩
   . rcases h with ⟨k,hk,ox,⟨_,iN⟩,hR⟩|⟨hA,_⟩
     . have:k=i:=by
        rcases Nat.lt_trichotomy k i with h|h|h
        . have:=Jq k hk cg h;omega
        . exact h
        . rw[fQ]at ox;have hm:es[i]∈es.take k:=by
           rw[List.mem_iff_getElem];exact⟨i,by simp;omega,d8⟩
          have:=ox _ hm;simp at this;omega
       subst this;exact aq.mk hR
     . rw[fQ]at hA;have:=hA es[i] (vd aA);simp at this;omega
   . rw[cF];refine⟨aX d6 d6,es.length-(i+1),d6,i+1,rfl,d6,rfl,rfl,rfl,d8,rfl,?_⟩;rw[nP,mP aA,List.all_append,cg];simp;omega
 . have hi:i=es.length:=by omega
   subst hi;rw[oO]at cg;rcases h with ⟨k,hk,ox,⟨_,iN⟩,hR⟩|⟨_,hR⟩
   . rw[fQ]at cg;have:=cg es[k] (vd hk);simp at this;omega
   . exact aq.mk hR
def Jk:∀(es:List Int)(n:Int),(∃k,∃hk:k<es.length,(es.take k).all (λa=>decide (n<a))/\es[k]<=n)\/es.all (λa=>decide (n<a))
 | [],n=>.inr rfl
 | a::es,n=>by
   by_cases ha:n<a
   . rcases Jk es n with ⟨k,hk,h1,h2⟩|h
     . exact .inl ⟨k+1,by simp;omega,by simp[ha,h1],by simpa using h2⟩
     . exact .inr (by simp[ha,h])
   . exact .inl ⟨0,d8,d8,by simp;omega⟩
def Tu{v:AV}{bn:Nat}{es:List Int}{n:Int}(hv:sx aj U v es)(hn:U.box bn=some [bv n])(hl:es.length<=100000)(hE:dt aj U)(GQ:∀b,aj.live b=none->v=.ms b 0 es.length 1 3->bn≠b)
 (h:∀aa v',sx aj aa v' (es.filter (n<·))->dt aj aa->(∀b x,(∀k,v≠.ms b 0 k 1 3)->U.box b=some x->aa.box b=some x)->(∀b k,v'=.ms b 0 k 1 3->v=.ms b 0 es.length 1 3)->R (.ret v') aa):ag K 132 [v,.func (.func 133) [] [.box bn 0]] U R:=by
 refine WG ?_;dsimp only[WE,di,ae,ak,wM,gX,aQ,ah,ar,ca,eN,cJ,ej,fW,cn,aC];rcases hv with ⟨rfl,rfl⟩|⟨b,nJ,rfl,hb,wg⟩
 ·
  have ajo:ag K 210 [.af,.func (.func 133) [] [.box bn 0]] U (bD (λv10 U =>
   (bU .eql (BT.mk false false false none false) true v10 (bv (-1))).wp K U (λv12 U=>cX v12 (aq R .af U) False) (aD R)) (aD R)):=by
   refine Ko ?_;dsimp only[ND,di,ak,gX,aQ,ah,ar,ca,cJ,aC];simp only[len_nil,ad];refine⟨λm v0 v1 v7 v8 aa=>v7=bv 0/\v8=bv 0/\aa=U,⟨0,rfl,rfl,rfl⟩,?_⟩;rintro m v0 v1 v7 v8 aa ⟨rfl,rfl,rfl⟩;simp only[aY,ad,show decide ((0:Int)<0)=false from rfl,aG];refine aq.mk ?_;simp only[bh,aN,ad,cC,aL];exact aq.mk (h aa .af (.inl ⟨rfl,rfl⟩) hE (λ_ _ _ h=>h) (λ_ _ e=>by cases e))
  refine ajo.mono λr aa hr=>?_;cases r with
  | panic x=>exact hr
  | ret x =>
    simp only[bh]at hr ⊢;refine aW.wp_mono (λv U hv=>?_) _ hr;cases v<;>simp only[cX]at hv ⊢
    exact⟨hv.1,λe=>(hv.2 e).elim⟩
 . have C7:bn≠b:=GQ b wg rfl;rcases Jk es n with ⟨k,hk,ox,iN⟩|cg
   . refine JI hb hn hl (.inl ⟨k,hk,ox,⟨hk,iN⟩,?_⟩);have hkn:¬ ((k:Nat):Int)=-1:=by omega
     simp only[bh,aN,ad,hkn,cZ,aG,cF];refine⟨aX d6 d6,?_⟩;have GU:(es.take (k+1)).filter (n<·)=es.take k:=by
      rw[nP,mP hk,List.filter_append];have h1:(es.take k).filter (n<·)=es.take k:=by
       rw[List.filter_eq_self];intro a ha;rw[fQ]at ox;exact ox a ha
      rw[h1];have:¬ n<es[k]:=by omega
      simp[this]
     refine⟨λm v0 v1 v5 v6 aa=>∃(i j:Nat)(arr:List AV),m=es.length-j/\v0=.ms b 0 es.length 1 3/\v1=.func (.func 133) [] [.box bn 0]/\v5=bv (i:Nat)/\v6=bv (j:Nat)/\j<=es.length/\i<j/\aa.box b=some arr/\arr.take i=((es.take j).filter (n<·)).map (.int .i64)/\i=((es.take j).filter (n<·)).length/\arr.drop j=(es.drop j).map (.int .i64)++nJ/\arr.length=es.length+nJ.length/\(∀c,c≠b->aa.live c=U.live c),
      ⟨_,k,k+1,es.map (.int .i64)++nJ,rfl,rfl,rfl,rfl,d8,d6,d6,hb,?_,?_,?_,d8,λ_ _=>rfl⟩,?_⟩
     . rw[GU,List.take_append_of_le_length (by simp;omega),<-List.map_take]
     . rw[GU];simp;omega
     . rw[List.drop_append_of_le_length (by simp;omega),<-List.map_drop]
     . rintro m v0 v1 v5 v6 aa ⟨i,j,arr,rfl,rfl,rfl,rfl,rfl,hj,eF,fi,ha1,ha2,ha3,ha4,pc⟩;simp only[Dp,ad,aY,bp];refine⟨λaA=>?_,λgL=>?_⟩
       . have aA:j<es.length:=by omega
         intro jj uH;have Ax:aa.box bn=some [bv n]:=by rw[eE (pc bn C7)];exact hn
         rw[xr];refine⟨⟨d6,d6,rfl⟩,?_⟩;rw[gJ fi];obtain⟨rr,hd⟩:∃rr,arr.drop (0+(j:Int).toNat*1)=bv es[j]::rr:=by
          rw[ez,Nat.mul_one,cK,ha3,gI aA,fh];exact⟨_,rfl⟩
         rw[hd,bI];simp only[kQ,show gP K.P 133 by kernel_rfl,if_true,nU,mQ,ke];refine adl Ax ?_;have kI:es.take (j+1)=es.take j++[es[j]]:=by rw[nP,mP aA];rfl
         have EY:arr.drop (j+1)=(es.drop (j+1)).map (.int .i64)++nJ:=by
          rw[<-List.drop_drop,ha3,gI aA,fh];rfl
         simp only[bh,db,ad]
         by_cases hle:es[j]<=n
         . simp only[hle,cC,cL,aG];refine uH _ _ _ _ _ ?_;simp only[cF];refine⟨aX d6 d6,es.length-(j+1),d6,i,j+1,arr,rfl,rfl,rfl,rfl,d8,d6,d6,fi,?_,?_,EY,ha4,pc⟩
           . rw[kI,List.filter_append,ha1];have:¬ n<es[j]:=by omega
             simp[this]
           . rw[kI,List.filter_append];have:¬ n<es[j]:=by omega
             simp only[List.filter_cons,this,cZ,bW,if_false,List.filter_nil,iM];exact ha2
         . simp only[hle,cZ,dS,aL];rw[xr];refine⟨⟨d6,d6,rfl⟩,?_⟩;rw[cV fi];refine⟨⟨rfl,rfl,by simp;omega⟩,?_⟩;rw[cF];refine⟨aX d6 d6,?_⟩;refine uH _ _ _ _ _ ?_;simp only[cF];have Dc:ax arr (0+(i:Int).toNat*1) (al (bv es[j]))=arr.take i++[bv es[j]]++arr.drop (i+1):=by
            simp[ax]
           have Mj:(arr.take i).length=i:=by simp;omega
           refine⟨aX d6 d6,es.length-(j+1),d6,i+1,j+1,_,rfl,rfl,rfl,d8,d8,d6,d6,aZ,?_,?_,?_,?_,λc hc=>by rw[eM,if_neg hc];exact pc c hc⟩
           . rw[Dc,List.take_append_of_le_length (by simp;omega),pO (by simp;omega),ha1,kI,List.filter_append];have:n<es[j]:=by omega
             simp[this]
           . rw[kI,List.filter_append];have:n<es[j]:=by omega
             simp only[List.filter_cons,this,cC,if_true,List.filter_nil,dx,jm,nQ];omega
           . rw[Dc,<-EY];rw[List.drop_append,List.drop_eq_nil_of_le (by simp;omega),mQ,List.drop_drop];congr 1;simp;omega
           . rw[Dc];simp;omega
       . have hje:j=es.length:=by omega
         subst hje;rw[oO]at ha1 ha2;simp only[eI,fB,wp_cond,ad];refine⟨⟨d6,d6,d6,d6,trivial⟩,?_⟩;simp only[Gy,fi,wp_cond,oH];refine⟨⟨trivial,by simp;omega⟩,⟨d6,d6,d6,d8,trivial⟩,?_⟩;refine aq.mk (h _ _ (.inr ⟨b,(ax arr (0+(i:Int).toNat*1) (bZ ((es.length:Int).toNat-(i:Int).toNat) [bv 0])).drop i,?_,?_,wg⟩) ?_ ?_ ?_)
         . simp[ha2]
         . rw[aZ];congr 1;have hz:(bZ (es.length-i) [bv 0]).length=es.length-i:=by simp[oq]
           simp only[ez,Nat.mul_one,cK]
           conv=>lhs;rw[<-List.take_append_drop i (ax arr i _)]
           congr 1;simp only[ax,lG];rw[List.take_append_of_le_length (by simp;omega),pO (by simp;omega)];exact ha1
         . refine dt.set (λc x e=>?_) wg
           by_cases hc:c=b
           . subst hc;rw[wg]at e;cases e
           . rw[pc c hc];exact hE c x e
         . intro c x hc hx;have hcb:c≠b:=λe=>hc es.length (by rw[e]);rw[bf hcb,eE (pc c hcb)];exact hx
         . intro c k e;simp only[AV.ms.injEq]at e;rw[e.1]
   . refine JI hb hn hl (.inr ⟨cg,?_⟩);simp only[bh,aN,ad,cC,aL];have hf:es.filter (n<·)=es:=by
      rw[List.filter_eq_self];intro a ha;rw[fQ]at cg;exact cg a ha
     exact aq.mk (h U _ (by rw[hf];exact .inr ⟨b,nJ,rfl,hb,wg⟩) hE (λ_ _ _ h=>h) (λb' k e=>by cases e;rfl))
end
section
variable {aj U:St}{R:bi}{K':am}{Kp:am}{v:AV}{es:List Int}
def aaw(h:sx aj U v es):dK (some false) v=.val (bv es.length):=by
 rcases h with ⟨rfl,rfl⟩|⟨b,nJ,rfl,_,_⟩<;>rfl
def aav{bx:Nat}{a:Int}(hv:sx aj U v es)(hy:U.box bx=some [bv a])(E:dt aj U)(hl:es.length<=100000)(h:∀aa v',sx aj aa v' (es++[a])->dt aj aa->K' v' aa) :
 (dH (some (3,1)) true v (.ms bx 0 1 1 3) U).wp K U K' Kp:=by
 have Il:qD U (.ms bx 0 1 1 3)=some (1,[bv a]):=by simp[qD,hy]
 rcases hv with ⟨rfl,rfl⟩|⟨b,nJ,rfl,hb,wg⟩
 . simp only[dH,Il,wp_cond];refine⟨rfl,d6,λb hf=>?_⟩;exact h _ _ (.inr ⟨b,[],rfl,by rw[show U.wA none=U from rfl];exact aH,E.fresh hf.1⟩) (E.new hf)
 . refine HO hb Il ⟨rfl,d8,d6⟩ λb' hf=>?_;refine h _ _ (.inr ⟨b',[],d8,?_,?_⟩) ((E.del wg).new hf)
   . rw[aH];simp
   . have hd:=hf.1
     by_cases e:b'=b
     . rw[e];exact wg
     . rw[jv,if_neg e]at hd;exact E.fresh hd
end
def GL{v:AV}{l:List Nd}(hv:dz v l.length (bM l))(hc:closed v)(hl:l.length<=100000)(h0:l≠[])(hs:∀x∈l,0<=x.size/\x.size<=100000)(wS:oD l<=l.length):Pure K 69 [.agg [v]] (.bool (qX l)):=by
 refine Pure.of (by simp[cW,closed,hc]) rfl (λU=>rfl) λR hR=>?_;refine aco ?_;dsimp only[adR,ae,bg,ak,Ch,SZ,aQ,ah,Ec,Ed,dj,ar,ca,eN,dI,iH,cJ,ej,cn,aC,dr,dA];rw[fg rfl];intro b1 gz;have m1:((cj ⟨.e,0⟩).new b1 (.box (al (.agg [v])))).box b1=some [v]:=aH;generalize (cj _).new b1 _=aj at *;clear gz;simp only[aP,ad,cK];rw[gJ m1,eR,bI,hv.len,ad];refine⟨λm v1 v2 v3 v8 v9 v10 aa=>∃(i:Nat)(es:List Int),m=l.length-i/\v1=.box b1 0/\v2=.bool false/\v8=v/\v9=bv l.length/\v10=bv (i:Nat)/\i<=l.length/\sx aj aa v3 es/\es.length<=i/\mS (l.drop i) i es=mS l 0 []/\dt aj aa,
  ⟨_,0,[],rfl,rfl,rfl,rfl,rfl,rfl,d6,.inl ⟨rfl,rfl⟩,d8,rfl,dt.refl _⟩,?_⟩
 rintro m v1 v2 v3 v8 v9 v10 aK ⟨i,es,rfl,rfl,rfl,rfl,rfl,rfl,hi,C9,hel,hg,E1⟩;simp only[aY,ad,bp];refine⟨λaA=>?_,λgL=>?_⟩
 . have aA:i<l.length:=by omega
   obtain⟨x,hx⟩:∃x,l[i]?=some x:=⟨l[i],by simp[aA]⟩;have wP:l.drop i=x::l.drop (i+1):=by
    rw[gI aA];have:=(dw.1 hx).2;rw[this]
   rw[wP,mS]at hg;refine IY hv hx λr=>?_;rw[tP];refine⟨by simp[dv],?_⟩;have L7:(dv x++r).take 6=dv x:=by simp[dv]
   rw[L7,dh];intro b4 kG;rw[dh];intro b5 kZ;have m4:(aK.new b4 (.box [bv 0])).box b4=some [bv 0]:=aH;have Fk:=kZ.cA m4;have f4:=E1.fresh kG.1;have E2:=E1.new kG (x:=.box [bv 0]);have aaX:sx aj (aK.new b4 (.box [bv 0])) v3 es/\(∀b,v3=.ms b 0 es.length 1 3->b4≠b):=by
    rcases C9 with h|⟨b,nJ,rfl,h2,h3⟩
    . exact⟨.inl h,λb e=>by rw[h.2]at e;cases e⟩
    . have:=kG.cA h2;exact⟨.inr ⟨b,nJ,rfl,by rw[pF this];exact h2,h3⟩,λb' e=>by cases e;exact this.symm⟩
   obtain⟨aaX,aa3⟩:=aaX;clear C9;generalize aK.new b4 (.box [bv 0])=aV at *;have m5:(aV.new b5 (.box [co 0,AV.str [],bv 0,bv 0,bv 0,bv 0])).box b5=some [co 0,AV.str [],bv 0,bv 0,bv 0,bv 0]:=aH;have f5:=E2.fresh kZ.1;have E3:=E2.new kZ (x:=.box [co 0,AV.str [],bv 0,bv 0,bv 0,bv 0]);have m4':=(bK kZ (x:=.box [co 0,AV.str [],bv 0,bv 0,bv 0,bv 0])).bq m4;have aaY:sx aj (aV.new b5 (.box [co 0,AV.str [],bv 0,bv 0,bv 0,bv 0])) v3 es/\(∀b,v3=.ms b 0 es.length 1 3->b5≠b):=by
    rcases aaX with h|⟨b,nJ,rfl,h2,h3⟩
    . exact⟨.inl h,λb e=>by rw[h.2]at e;cases e⟩
    . have:=kZ.cA h2;exact⟨.inr ⟨b,nJ,rfl,by rw[pF this];exact h2,h3⟩,λb' e=>by cases e;exact this.symm⟩
   obtain⟨aaY,agM⟩:=aaY;generalize aV.new b5 (.box [co 0,AV.str [],bv 0,bv 0,bv 0,bv 0])=bG at *;rw[cV m4'];refine⟨⟨rfl,rfl,d8⟩,?_⟩;rw[cV (show (bG.set b4 _).box b5=some _ by rw[bf Fk.symm];exact m5)];refine⟨⟨rfl,rfl,by simp[dv]⟩,?_⟩;have E4:=(E3.set f4 (x:=.box (ax [bv 0] 0 (al (bv (i:Nat)))))).set f5 (x:=.box (ax [co 0,AV.str [],bv 0,bv 0,bv 0,bv 0] 0 (al (.agg (dv x)))));have g4:((bG.set b4 (.box (ax [bv 0] 0 (al (bv (i:Nat)))))).set b5 (.box (ax [co 0,AV.str [],bv 0,bv 0,bv 0,bv 0] 0 (al (.agg (dv x)))))).box b4=some [bv (i:Nat)]:=by
    rw[bf Fk,aZ];rfl
   have g5:((bG.set b4 (.box (ax [bv 0] 0 (al (bv (i:Nat)))))).set b5 (.box (ax [co 0,AV.str [],bv 0,bv 0,bv 0,bv 0] 0 (al (.agg (dv x)))))).box b5=some (dv x):=by
    rw[aZ];rfl
   have agA:sx aj ((bG.set b4 (.box (ax [bv 0] 0 (al (bv (i:Nat)))))).set b5 (.box (ax [co 0,AV.str [],bv 0,bv 0,bv 0,bv 0] 0 (al (.agg (dv x)))))) v3 es:=by
    rcases aaY with h|⟨b,nJ,rfl,h2,h3⟩
    . exact .inl h
    . exact .inr ⟨b,nJ,rfl,by rw[bf (agM b rfl).symm,bf (aa3 b rfl).symm];exact h2,h3⟩
   generalize (bG.set b4 (.box (ax [bv 0] 0 (al (bv (i:Nat)))))).set b5 (.box (ax [co 0,AV.str [],bv 0,bv 0,bv 0,bv 0] 0 (al (.agg (dv x)))))=cI at *;refine Tu agA g4 d6 E4 (λb _ e=>aa3 b e) λdc v' agB E5 hk5 _=>?_;have qH:∀b y,b4=b\/b5=b->cI.box b=some y->dc.box b=some y:=λb y hb hy=>by
    refine hk5 b y (λk e=>?_) hy;rcases agA with h|⟨b',nJ,rfl,h2,h3⟩
    . rw[h.2]at e;cases e
    . simp only[AV.ms.injEq]at e;rcases hb with rfl|rfl
      . exact aa3 b' rfl e.1.symm
      . exact agM b' rfl e.1.symm
   have g4':=qH b4 _ (.inl rfl) g4;have g5':=qH b5 _ (.inr rfl) g5;simp only[bh,aaw agB,ad,dq,bp];have p6:(es.filter ((i:Int)<·)).length<=es.length:=List.length_filter_le _ _;refine⟨λAu=>?_,λhle=>?_⟩
   . rw[if_pos d6]at hg;refine aq.mk ?_;have:qX l:=by simp[qX,<-hg]
     rw[this]at hR;exact hR _
   . rw[if_neg d6]at hg;have Uh:=hs x (fT hx);rw[gJ g4',eR,bI];simp only[aP,ad,cK];rw[gJ g5'];simp only[dv,List.drop,bI,cF];refine⟨aX d6 d6,?_⟩;rw[zt];refine⟨d6,?_⟩;rw[eg (o:=0) (s:=1) rfl];refine⟨⟨rfl,rfl,by simp[bZ]⟩,?_⟩;rw[EJ];refine⟨rfl,λbx mC=>?_⟩;have ajA:sx aj (dc.new bx (.box (ax (bZ 1 [bv 0]) 0 (al (bv ((i:Int)+x.size)))))) v' (es.filter ((i:Int)<·)):=by
      rcases agB with h|⟨b',nJ,rfl,h2,h3⟩
      . exact .inl h
      . exact .inr ⟨b',nJ,rfl,by rw[pF (mC.cA h2)];exact h2,h3⟩
     refine aav ajA (by rw[aH];rfl) (E5.new mC) d6 λgZ v7 ajB E7=>?_;refine⟨aX d6 d6,l.length-(i+1),d6,i+1,_,rfl,rfl,rfl,rfl,rfl,d8,d6,ajB,by simp;omega,hg,E7⟩
 . have hi:i=l.length:=by omega
   subst hi;rw[List.drop_length]at hg;have T0:mS l 0 []=false:=hg.symm;have Au:qX l=decide (24<(ix l (oD l) l.length 1).length):=by simp[qX,T0]
   rw[Au]at hR;rw[dh];intro b6 tC;have m6:(aK.new b6 (.box [bv 0])).box b6=some [bv 0]:=aH;have MV:=(E1.new tC (x:=.box [bv 0])).bq m1;have n16:=tC.cA (E1.bq m1);generalize aK.new b6 (.box [bv 0])=aV at *;rw[cV m6];refine⟨⟨rfl,rfl,d8⟩,?_⟩;have m6':(aV.set b6 (.box (ax [bv 0] 0 (al (bv 0))))).box b6=some [bv (([]:List Nat).length:Nat)]:=by rw[aZ];rfl
   have akf:(aV.set b6 (.box (ax [bv 0] 0 (al (bv 0))))).box b1=some [v8]:=by rw[bf n16];exact MV
   generalize aV.set b6 (.box (ax [bv 0] 0 (al (bv 0))))=bG at *;rw[mK akf];refine⟨d8,?_⟩;refine jC [v8] (by simp[ta,hv.dC,ax]) ?_;cases l with
   | nil=>exact absurd rfl h0
   | cons x0 l =>
   have hx0:=hs x0 d8;refine BI (n:=0) (x:=x0) hv rfl (aX (by simp;omega) (by simp;omega)) λbn be bt cI d1 d2 d3 f1 f2 f3 k1 k2 k3 e4=>?_;have m6n:=e4.bq m6';have en:(((0:Nat):Int)+x0.size)=oD (x0::l):=by simp[oD]
   rw[en]at k2;have nn:bn≠b6:=λe=>by rw[e]at f1;exact cN m6' f1
   have ne:be≠b6:=λe=>by rw[e]at f2;exact cN m6' f2
   have nt:bt≠b6:=λe=>by rw[e]at f3;exact cN m6' f3
   refine Hv (λks U=>U.box b6=some [bv (ks.length:Nat)]/\U.box bn=some [bv ((0:Nat):Int)]/\U.box be=some [bv (oD (x0::l))]/\U.box bt=some [v8]/\True) (λ_=>False) hv d8 d6 wS
    (λks U h=>h.2.imp id λh=>h.imp id λh=>h.1) (λks U o L L' h hL=>?_) (λks U o L h ho=>?_) (λ_ _ _ _ h=>h.elim) (λks ir x dc o L1 q hI hx aA tc hnk kH _ hL hn hr=>?_) (λks dc o L ju hI hL=>?_) (λ_ _ _ h=>h.elim) ⟨m6n,k1,k2,k3,trivial⟩
   . exact⟨by rw[bf (cQ h.1 hL)];exact h.1,by rw[bf (cQ h.2.1 hL)];exact h.2.1,by rw[bf (cQ h.2.2.1 hL)];exact h.2.2.1,by rw[bf (cQ h.2.2.2.1 hL)];exact h.2.2.2.1,h.2.2.2.2⟩
   . have e:=bK ho (x:=.loop L);exact⟨e.bq h.1,e.bq h.2.1,e.bq h.2.2.1,e.bq h.2.2.2.1,h.2.2.2.2⟩
   . obtain⟨i1,i2,i3,i4,i5⟩:=hI;rw[gJ i1,eR,bI,cF];refine⟨aX d6 d6,?_⟩;rw[cV i1];refine⟨⟨rfl,rfl,d8⟩,?_⟩;refine hn _ ⟨by rw[aZ];simp[ax],by rw[bf nn];exact i2,by rw[bf ne];exact i3,by rw[bf nt];exact i4,trivial⟩ (hs x (fT hx)).2 (by rw[iX];exact hL;rw[eM,if_neg (cQ i1 hL).symm])
   . obtain⟨i1,i2,i3,i4,i5⟩:=hI;have i1':(dc.del o).box b6=some [bv (ks.length:Nat)]:=by rw[jF (cQ i1 hL)];exact i1
     show (bj (some (false,1)) (.box b6 0) (dc.del o)).wp K (dc.del o) _ _;rw[gJ i1',eR,bI];simp only[dq,ad];subst ju;refine aq.mk ?_;have:=hR (dc.del o);have e:decide ((24:Int)<((ix (x0::l) (oD (x0::l)) (x0::l).length (0+1)).length:Nat))=decide (24<(ix (x0::l) (oD (x0::l)) (x0::l).length 1).length):=by
      rw[oN];simp only[dU,cK];omega
     rw[e];exact this
def oC{U:St}{a b:Nat}{l:List AV}(h:b≠a):(U.c7 a l).live b=U.live b:=by
 simp[St.c7,St.set,h]
def jT.c7{r:Nat}{U aa:St}{b:Nat}{l:List AV}(h:jT r U aa)(n:U.live b=none):jT r U (aa.c7 b l):=λc y m e=>by
 by_cases hc:c=b
 . subst hc;rw[n]at e;cases e
 . rw[oC hc];exact h c y m e
def fH.scalar{a:AV}{ns:List Nd}(hk:fH false [a] ns):a.scalar:=by
 generalize hb:false=b at hk;generalize hl:[a]=la at hk;cases hk with
 | mk _ _=>cases hl;rfl
 | nil=>cases hl
 | cons _ _=>cases hb
section
variable {X:Rx}{r i:Nat}{U:St}{R:bi}
def SN(hr:U.box r=some (rd X i))(hi:i<=X.L.length)(h1:∀ns j a aa,lH X.L X.E (fuel X.L) i=.ok ns j->j<=X.L.length->i<j->fH false [a] ns->gK r (rd X j) U aa->R (.ret (.az [a,bv 0,ce])) aa)
 (h2:∀j aa,lH X.L X.E (fuel X.L) i=.bad j->i<=j->j<=X.L.length->gK r (rd X j) U aa->R (.ret (.az [.bE,bv (cT X.L X.E j),ci])) aa):ag K 54 [.box r 0,.func (.func 55) [.box r 0] []] U R:=by
 refine Gf _ _ _ _ _ _ (by kernel_rfl) λa b c ha hb hc=>?_;have na:=ha.cA hr;have fa:U.live a=none:=ha.1;have e1:=bK ha (x:=.box [.bE]);have ka:(U.new a (.box [.bE])).box a=some [.bE]:=aH;generalize U.new a (.box [.bE])=aK at *;have nb:=hb.cA (e1.bq hr);have nab:=hb.cA ka;have fb:U.live b=none:=e1.fresh hb.1;have e2:=bK hb (x:=.box [bv 0]);have kb:(aK.new b (.box [bv 0])).box b=some [bv 0]:=aH;have ka2:=e2.bq ka;generalize aK.new b (.box [bv 0])=aV at *;have nc:=hc.cA ((e1.trans e2).bq hr);have nac:=hc.cA ka2;have nbc:=hc.cA kb;have fc:U.live c=none:=(e1.trans e2).fresh hc.1;have e3:=bK hc (x:=.box [ci]);have kc:(aV.new c (.box [ci])).box c=some [ci]:=aH;have ka3:=e3.bq ka2;have kb3:=e3.bq kb;have e13:=e1.trans (e2.trans e3);have Cv:=e13.bq hr;generalize aV.new c (.box [ci])=bG at *;have hg:=RN (L:=X.L) (E:=X.E) hi;refine abf X hi r bG _ Cv ⟨λns j e hj v aa hk A=>?_,λj e aa A=>?_⟩
 . rw[e]at hg;refine⟨hk.scalar,⟨_,A.ex.bq na.symm ka3⟩,⟨_,A.ex.bq nb.symm kb3⟩,⟨_,A.ex.bq nc.symm kc⟩,?_⟩;refine h1 ns j v _ e hj hg.1 hk ⟨?_,(((e13.vZ.trans A.ex).c7 fa).c7 fb).c7 fc⟩;rw[eE (oC nc),eE (oC nb),eE (oC na)];exact A.box
 . rw[e]at hg;refine⟨_,rfl,⟨_,A.ex.bq na.symm ka3⟩,⟨_,A.ex.bq nb.symm kb3⟩,⟨_,A.ex.bq nc.symm kc⟩,λq hq=>?_⟩;have hqr:=hq.cA A.box;refine h2 j _ e hg.1 hg.2 ⟨?_,((((e13.vZ.trans A.ex).new hq).c7 fa).c7 fb).c7 fc⟩;rw[eE (oC nc),eE (oC nb),eE (oC na),pF hqr];exact A.box
end
def gq(l:List Nd):AV:=if l=[] then .af else .vec l.length .lC (bM l)
def lr(l:List Nd):List Nd×Int:=if 900<(node 1 [] 0 0 0 l).length\/qX (node 1 [] 0 0 0 l)=true then ([],5) else (node 1 [] 0 0 0 l,0)
def fH.aiS:∀{b:Bool}{ks:List AV}{l:List Nd},fH b ks l->∀x∈l,1<=x.size/\x.size<=l.length:=by
 intro b ks l h
 induction h with
 | mk h1 h2 ih =>
   intro x hx;simp only[node,dy]at hx;rw[cR];rcases hx with rfl|hx
   . simp;omega
   . have:=ih x hx;omega
 | nil=>intro x hx;cases hx
 | cons h1 h2 i1 i2 =>
   intro x hx;simp only[gV]at hx;rw[dx];rcases hx with hx|hx
   . have:=i1 x hx;omega
   . have:=i2 x hx;omega
def aaa{U:St}{R:bi}{v:AV}{l:List Nd}(hv:ks=[]/\v=.af\/∃c,v=.vec ks.length c ks)(hk:fH true ks l)(hl:l.length<=90000)
 (h:∀aa w,dt U aa->Gs U aa w (lr l).1->R (.ret (.az [.agg [w],bv (lr l).2])) aa):ag K 56 [v] U R:=by
 refine ZJ ?_;dsimp only[ZI,CC,ae,bg,ak,uC,fw,aQ,ah,dj,ar,dI,cJ,bX,aC,dr,dA];rw[dh];intro b2 iq;have m2:(U.new b2 (.box [.af])).box b2=some [.af]:=aH;have e1:=bK iq (x:=.box [.af]);have f2:=iq.1;generalize U.new b2 (.box [.af])=aK at *;have pc:v.dC/\al v=[v]:=by
  rcases hv with ⟨_,rfl⟩|⟨c,rfl⟩<;>exact⟨rfl,rfl⟩
 refine jC [co 1,.str [],bv 0,bv 0,bv 0,bv 0] rfl ?_;refine jC (oc 1 [] 0 0 0 v) (by simp[ta,pc,ax,oc]) ?_;rw[fg rfl];intro b9 GP;have m9:(aK.new b9 (.box (al (.agg (oc 1 [] 0 0 0 v))))).box b9=some (oc 1 [] 0 0 0 v):=aH;have e2:=e1.new GP (x:=.box (al (.agg (oc 1 [] 0 0 0 v))));have UQ:=(bK GP (x:=.box (al (.agg (oc 1 [] 0 0 0 v))))).bq m2;generalize aK.new b9 (.box (al (.agg (oc 1 [] 0 0 0 v))))=aV at *;refine Hl (.inr ⟨b9,rfl,m9⟩) hk d6 (λa l1 h1 h2=>J4 l.length a l1 h1 h2 d6) hv λbG bm e3 fm mm=>?_;have nm2:b2≠bm:=λe=>cN UQ (by rw[e];exact fm);have agW:=e3.bq UQ;have E3:=e2.trans e3;have fm:=e2.fresh fm;simp only[bh];have htv:∃t,t=node 1 [] 0 0 0 l/\t.length=l.length+1:=⟨_,rfl,rfl⟩;obtain⟨t,ht,ub⟩:=htv;rw[<-ht]at mm;rw[<-ub];have cD:t≠[]:=by rw[ht];simp[node]
 refine jC [.ms bm 0 t.length 6 43] rfl ?_;rw[dh];intro b5 kZ;have m5:(bG.new b5 (.box [.af])).box b5=some [.af]:=aH;have n25:=kZ.cA agW;have n5m:=kZ.cA mm;have f5:=E3.fresh kZ.1;have E4:=E3.new kZ (x:=.box [.af]);have m2n:=(bK kZ (x:=.box [.af])).bq agW;have mm:=(bK kZ (x:=.box [.af])).bq mm;generalize bG.new b5 (.box [.af])=cI at *;rw[cV m5];refine⟨⟨rfl,rfl,d8⟩,?_⟩;have g5:(cI.set b5 (.box (ax [.af] 0 (al (.agg [.ms bm 0 t.length 6 43]))))).box b5=some [.ms bm 0 t.length 6 43]:=by rw[aZ];rfl
 have g2:(cI.set b5 (.box (ax [.af] 0 (al (.agg [.ms bm 0 t.length 6 43]))))).box b2=some [.af]:=by rw[bf n25];exact m2n
 have gm:(cI.set b5 (.box (ax [.af] 0 (al (.agg [.ms bm 0 t.length 6 43]))))).box bm=some (bM t):=by rw[bf n5m];exact mm
 have E5:=E4.set f5 (x:=.box (ax [.af] 0 (al (.agg [.ms bm 0 t.length 6 43]))));generalize cI.set b5 (.box (ax [.af] 0 (al (.agg [.ms bm 0 t.length 6 43]))))=dc at *;have gj:∀x∈t,0<=x.size/\x.size<=100000:=λx hx=>by
  have Av:fH false [.dJ (oc 1 [] 0 0 0 v)] t:=by rw[ht];exact .mk hk hv
  have:=Av.aiS x hx;omega
 have wS:oD t<=t.length:=by rw[ht];simp[oD,node]
 have hcl:∀l:List Nd,cW (bM l):=λl=>by
  induction l with
  | nil=>rfl
  | cons x l ih=>show cW (dv x++bM l)=true;simp[dv,cW,closed,ih]
 have hre:(bM t).map (resolve 3 dc)=bM t:=by
  have:∀l:List Nd,(bM l).map (resolve 3 dc)=bM l:=λl=>by
   induction l with
   | nil=>rfl
   | cons x l ih=>show (dv x++bM l).map _=dv x++bM l;rw[List.map_append,ih];rfl
  exact this t
 intro j hj;refine (show ∀{P:Prop},P->P from id) ?_;have jj:∀b:Bool,(b=true↔900<t.length\/qX t)->j (.box b2 0) (.box b5 0) (.bool b) dc:=by
  intro b hb;refine hj _ _ _ _ ?_;cases b with
  | true =>
    simp only[aL];refine jC [.af] rfl ?_;rw[cV g2];refine⟨⟨rfl,rfl,d8⟩,?_⟩;rw[rP aZ];refine⟨by simp[ax],?_⟩;have hw:lr l=([],5):=by unfold lr;rw[<-ht,if_pos (hb.1 rfl)]
    rw[hw]at h;exact aq.eq (h _ _ (E5.set f2) (.inl ⟨rfl,rfl⟩)) rfl
  | false =>
    simp only[aG];rw[mK g5];refine⟨d8,?_⟩;rw[cV g2];refine⟨⟨rfl,rfl,d8⟩,?_⟩;rw[rP aZ];refine⟨by simp[ax],?_⟩;have hw:lr l=(t,0):=by unfold lr;rw[<-ht,if_neg (λh=>nomatch hb.2 h)]
    rw[hw]at h;exact aq.eq (h _ (.ms bm 0 t.length 6 43) (E5.set f2) (.inr ⟨bm,rfl,by rw[bf (Ne.symm nm2)];exact gm,fm,cD⟩)) rfl
 simp only[aP,ad,cK];rw[gJ g5,eR,bI];simp only[Dp,ad,dq]
 by_cases h9:900<t.length
 . have h9':(900:Int)<t.length:=by omega
   simp only[h9',cC,aF,show (true==false)=false from rfl,aw,bB,aG,av,if_true,ad];exact jj true (by simp[h9])
 . have h9':¬ (900:Int)<t.length:=by omega
   simp only[h9',cZ,aF,eG,aw,bO,B0 g5,aL];refine⟨d8,?_⟩;refine ag.IH 5 vF (args0:=[.agg [.vec t.length .lC (bM t)]]) (λg vs hr=>?_) (by simp[cW,closed,hcl t]) rfl (GL (.inr ⟨_,rfl⟩) (hcl t) d6 cD gj wS) ?_
   . have e:([AV.agg (List.take 1 (List.drop 0 [AV.ms bm 0 t.length 6 43]))]).map (resolve 5 dc)=[.agg [.vec t.length .lC (bM t)]]:=by
      show [AV.agg [resolve 4 dc (.ms bm 0 t.length 6 43)]]=_;rw[show resolve 4 dc (.ms bm 0 t.length 6 43)=.vec t.length .lC ((bM t).map (resolve 3 dc)) by simp[resolve,gm],hre]
     rw[e]at hr;exact hr
   . simp only[bh,av,bW,if_false,ad];exact jj _ (by simp[h9])
end Go.Rip
