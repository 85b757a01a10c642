/- Lemmas for the proof: no conditions. -/
import Derived.Test.YtnfpmiiopiinbaaGreatDoorRipZz
import Derived.Test.YtnfpmiiopiinbaaGreatDoorRipO
import Derived.Test.YtnfpmiiopiinbaaGreatDoorRipP
import Derived.Test.YtnfpmiiopiinbaaGreatDoorRipI
import Derived.Test.YtnfpmiiopiinbaaGreatDoorRipK
set_option linter.unusedVariables false
set_option linter.unusedSimpArgs false
set_option linter.loopingSimpArgs false
namespace Go.Rip
open Go.Proofs Go.RowKit
def dA (x:Nd):List AV:=[.int .u8 x.kind,.str x.text,.int .i64 x.n,.int .i64 x.m,.int .i64 x.at_,.int .i64 x.size]
def cg (l:List Nd):List AV:=l.flatMap dA
theorem M8 (l l':List Nd):cg (l++l')=cg l++cg l':=by simp[cg]
theorem mf (L:List Nd):(cg L).length=6*L.length:=by
 induction L with
 | nil=>rfl
 | cons t L ih =>
   have:(cg (t::L)).length=6+(cg L).length:=by simp[cg,dA]; omega
   rw[this,ih,eX]; omega
theorem Tj (L:List Nd) (i:Nat):(cg L).drop (i*6)=cg (L.drop i):=by
 induction L generalizing i with
 | nil=>simp[cg]
 | cons t L ih =>
   cases i with
   | zero=>simp
   | succ i =>
     rw[Nat.add_mul,show i*6+1*6=6+i*6 by omega,<- List.drop_drop,List.drop_succ_cons,<- ih];rfl
theorem Gu {L:List Nd} {i:Nat} {t:Nd} (h:L[i]?=some t):∃ r,(cg L).drop (i*6)=dA t++r:=by
 rw[Tj,gM (dp.1 h).1];refine⟨cg (L.drop (i+1)),?_⟩;have:=(dp.1 h).2;simp[cg,this]
section
variable {C:de} {U:St} {K':AV->St->Prop} {Kp:AV->St->Prop} {e sz n b m:Nat} {L l2 z:List AV} {y:AV}
theorem ux {ps:List (Nat×AV)}:(au (some (e,sz)) (some z) n true ps).wp C U K' Kp=(n*sz<=16777216/\(ib (λ i=>some (i*sz,sz)) ps (bT n z) λ cs=>.cond (cs.length=n*sz) (.qx n sz e none cs)).wp C U K' Kp):=by
 simp only[au,if_true]; rfl
theorem yE {pl:Nat->Option (Nat×Nat)} {k:Nat}:(ib pl [] L λ cs=>.cond (cs.length=k) (.qx n sz e none cs)).wp C U K' Kp=(L.length=k/\∀ b,U.dL b->K' (.ms b 0 n sz e) (U.new b (.box L))):=rfl
theorem BV {mu:Bool} (hb:U.box b=some L) (hy:pa U y=some (m,l2)) (h:l2.length=m*sz/\n*sz<=L.length/\n+m<=4294967296) (hk:∀ b',(U.del b).dL b'->K' (.ms b' 0 (n+m) sz e) ((U.del b).new b' (.box (L.take (n*sz)++l2)))):(dB (some (e,sz)) mu (.ms b 0 n sz e) y U).wp C U K' Kp:=by
 simp only[dB,hy,hb,wp_cond];exact⟨h.1,⟨trivial,trivial,trivial,h.2.1,h.2.2⟩,hk⟩
end
def Ptr (U:St) (p:AV) (cs:List AV):Prop:=p=.da cs\/∃ b,p=.box b 0/\U.box b=some cs
def FZ (a:AV) (l:List Nd):Prop:=∀ (U:St) (R:cV->St->Prop),(∀ ad,cX U ad->R (.ret (.vec l.length .iE (cg l))) ad)->ae K 110 [a] U R
theorem eV.split {ks:List AV} {l:List Nd} {a:AV} {i:Nat} (h:eV true (ks.drop i) l) (ha:ks[i]?=some a):∃ l1 l2,l=l1++l2/\eV false [a] l1/\eV true (ks.drop (i+1)) l2:=by
 obtain⟨aN,rfl⟩:=dp.1 ha;rw[gM aN]at h;generalize hb:true=b at h;generalize hl:ks[i]::ks.drop (i+1)=la at h;cases h with
 | mk _ _=>cases hb
 | nil=>cases hl
 | cons h1 h2=>cases hl; exact⟨_,_,rfl,h1,h2⟩
theorem eV.abM {l:List Nd} (h:eV true [] l):l=[]:=by
 generalize hb:true=b at h;generalize hl:([]:List AV)=la at h;cases h with
 | mk _ _=>cases hb
 | nil=>rfl
 | cons _ _=>cases hl
theorem eV.le:∀ {ks:List AV} {l:List Nd},eV true ks l->ks.length<=l.length
 | [],_,_=>by simp
 | a::ks,l,h=>by
   obtain⟨l1,l2,rfl,h1,h2⟩:=eV.split (ks:=a::ks) (a:=a) (i:=0) h rfl;obtain⟨x,r,e,_⟩:=h1.size;have:=eV.le (ks:=ks) h2;rw[e]; simp; omega
theorem E8 {ar U:St} {R:cV->St->Prop} {ks:List AV} {l:List Nd} {b:Nat} {kind:Int} {text:aG} {n m at_:Int} {kv:AV} (hk:eV true ks l) (hl:l.length<=100000) (Zq:∀ a l1,eV false [a] l1->l1.length<=l.length->FZ a l1)
 (CT:ks=[]/\kv=.ag\/∃ c,kv=.vec ks.length c ks) (hb:U.box b=some [.int .u8 kind,.str text,.int .i64 n,.int .i64 m,.int .i64 at_,.int .i64 0]) (hn:ar.live b=none) (hE:cX ar U)
 (h:∀ ad,cX ar ad->R (.ret (.vec (l.length+1) .iE (cg (node kind text n m at_ l)))) ad) :
 (cr (some false) kv).wp K U (λ cz U =>
 fw 4 [.ms b 0 1 6 43,kv,cz,(AV.int .i64 0)] U λ lp v3 sU zK cQ U =>
  (aw .lss (BT.mk false false false none false) false cQ zK).wp K U (λ dq U =>
  ax dq (
   (aE (some (87,1)) none sU cQ).wp K U (λ cw U =>
   (ak (some (false,1)) cw U).wp K U (λ dt U =>
   ae K 110 [dt] U (ah (λ eo U =>
   (dB (some (43,6)) true v3 eo U).wp K U (λ eO U =>
   (aw .add (BT.mk false false false none false) true cQ (AV.int .i64 1)).wp K U (λ v24 U =>
   lp eO sU zK v24 U) (aa R)) (aa R)) (aa R))) (aa R)) (aa R)) (
   (cr (some false) v3).wp K U (λ dX U =>
   (aE (some (43,6)) none v3 (AV.int .i64 0)).wp K U (λ v28 U =>
   (af (some 5) v28).wp K U (λ ef U =>
   (aI (some (false,1)) ef dX U).wp K U (λ _ U =>
   aq R v3 U) (aa R)) (aa R)) (aa R)) (aa R))) (aa R)) (aa R):=by
 have hlen:cr (some false) kv=.val (.int .i64 ks.length):=by
  rcases CT with ⟨rfl,rfl⟩|⟨c,rfl⟩<;>rfl
 rw[hlen,al];refine⟨λ mm v3 cA cz cQ ad=>∃ (i b':Nat) (acc rest:List Nd),mm=ks.length-i/\i<=ks.length/\v3=.ms b' 0 (acc.length+1) 6 43/\cA=kv/\cz=.int .i64 ks.length/\cQ=.int .i64 (i:Nat)/\l=acc++rest/\eV true (ks.drop i) rest/\ad.box b'=some ([.int .u8 kind,.str text,.int .i64 n,.int .i64 m,.int .i64 at_,.int .i64 0]++cg acc)/\ar.live b'=none/\cX ar ad,
  ⟨_,0,b,[],l,rfl,by omega,rfl,rfl,rfl,rfl,rfl,hk,by simpa [cg] using hb,hn,hE⟩,?_⟩
 rintro mm v3 cA cz cQ aS ⟨i,b',acc,rest,rfl,hi,rfl,rfl,rfl,rfl,qW,N4,eY,Hv,hE'⟩;have iW:ks.length<=l.length:=hk.le;simp only[bV,al,cq];refine⟨λ aN=>?_,λ kV=>?_⟩
 . have aN:i<ks.length:=by omega
   rcases CT with ⟨rfl,_⟩|⟨c,rfl⟩
   . simp at aN
   rw[zN];refine⟨by omega,?_⟩;have hd:ks.drop ((i:Int).toNat*1)=ks[i]::ks.drop (i+1):=by rw[fW,Nat.mul_one]; exact gM aN
   rw[hd,oK,bC];obtain⟨l1,l2,ED,h1,h2⟩:=N4.split (a:=ks[i]) (by simp[aN]);have ahc:l1.length<=l.length:=by rw[qW,ED]; simp; omega
   refine Zq _ l1 h1 ahc aS _ λ bf e2=>?_;simp only[bE];have Xu:acc.length+l1.length<=l.length:=by rw[qW,ED]; simp
   refine BV (sz:=6) (m:=l1.length) (l2:=cg l1) (e2.aY eY) rfl ⟨by rw[mf]; omega,by simp[mf]; omega,by omega⟩ λ b2 hf=>?_;rw[dO];refine⟨bI (by omega) (by omega),ks.length-(i+1),by omega,i+1,b2,acc++l1,l2,rfl,aN,?_,rfl,rfl,by simp,by rw[qW,ED]; simp,h2,?_,?_,?_⟩
   . simp; omega
   . rw[aD,M8];have:(acc.length+1)*6=([AV.int .u8 kind,.str text,.int .i64 n,.int .i64 m,.int .i64 at_,.int .i64 0]++cg acc).length:=by simp[mf]; omega
     rw[this,tJ,dc]
   . have qV:((bf.del b').live b2)=none:=hf.1
     by_cases Hq:b2=b'
     . rw[Hq]; exact Hv
     . rw[jX,if_neg Hq]at qV;exact (hE'.trans e2).fresh qV
   . exact ((hE'.trans e2).del Hv).new hf
 . have hi:i=ks.length:=by omega
   subst hi;rw[List.drop_length]at N4;have:=N4.abM;subst this;rw[gx]at qW;subst qW;simp only[La,al];rw[CC];refine⟨⟨by omega,by omega,rfl⟩,?_⟩;simp only[bh,al,db,show (0:Int).toNat*6=0 from rfl];rw[cI eY];refine⟨⟨rfl,rfl,by simp⟩,?_⟩;refine⟨_,_,pD.W9 (aT),?_⟩;have:=h ((aS.set b' (.box (ay ([.int .u8 kind,.str text,.int .i64 n,.int .i64 m,.int .i64 at_,.int .i64 0]++cg l) 5 (av (.int .i64 ((l.length+1:Nat):Int)))))).del b') ((hE'.set Hv).del Hv);have e:ay ([.int .u8 kind,.str text,.int .i64 n,.int .i64 m,.int .i64 at_,.int .i64 0]++cg l) 5 (av (.int .i64 ((l.length+1:Nat):Int)))=cg (node kind text n m at_ l):=by
    simp[ay,node,cg,dA]
   rw[e]at this ⊢;exact this
theorem Ic {U:St} {R:cV->St->Prop} {p:AV} {ks:List AV} {l:List Nd} {kind:Int} {text:aG} {n m at_:Int} {kv:AV} (hp:Ptr U p (nr kind text n m at_ kv)) (hk:eV true ks l) (hl:l.length<=100000) (Zq:∀ a l1,eV false [a] l1->l1.length<=l.length->FZ a l1)
 (CT:ks=[]/\kv=.ag\/∃ c,kv=.vec ks.length c ks) (h:∀ ad,cX U ad->R (.ret (.vec (l.length+1) .iE (cg (node kind text n m at_ l)))) ad):ae K 110 [p] U R:=by
 refine Uk ?_;unfold Uj;rcases hp with rfl|⟨b,rfl,hb⟩
 . simp only[Aj,al,dC,eG];rw[tS];refine⟨by simp[nr],?_⟩;rw[ux];refine⟨by omega,?_⟩;rw[ff (o:=0) (s:=6) rfl];refine⟨⟨rfl,by simp[nr],by simp[bT]⟩,?_⟩;rw[yE];refine⟨rfl,λ b hf=>?_⟩;simp only[nr,List.drop,oK,bC];exact E8 hk hl Zq CT (aD) hf.1 ((cX.refl U).new hf) h
 . simp only[bW,al,bh,db];rw[ph hb];refine⟨by simp[nr],?_⟩;rw[ux];refine⟨by omega,?_⟩;rw[ff (o:=0) (s:=6) rfl];refine⟨⟨rfl,by simp[nr],by simp[bT]⟩,?_⟩;rw[yE];refine⟨rfl,λ b2 hf=>?_⟩;rw[il ((bg hf).aY hb)];simp only[nr,List.drop,bC];exact E8 hk hl Zq CT (aD) hf.1 ((cX.refl U).new hf) h
theorem Ib:∀ (N:Nat) (a:AV) (l:List Nd),eV false [a] l->l.length<=N->N<=100000->FZ a l
 | 0,a,l,h,hl,_=>by
   obtain⟨x,r,e,_⟩:=h.size;rw[e]at hl; simp at hl
 | N+1,a,l,h,hl,hN=>by
   generalize hb:false=b at h;generalize ha:[a]=la at h;cases h with
   | nil=>cases ha
   | cons _ _=>cases hb
   | mk h1 h2 =>
     cases ha;rw[cj]at hl;intro U R hR;exact Ic (.inl rfl) h1 (by omega) (λ a l1 hk Hu=>Ib N a l1 hk (by omega) (by omega)) h2 hR
end Go.Rip
namespace Go.Rip
open Go.Proofs Go.RowKit
theorem eW.atN {v:AV} {l:List Nd} (h:eW v l.length (cg l)) {i:Nat} {x:Nd} (hx:l[i]?=some x) {e:Nat}:∃ r,aE (some (e,6)) none v (.int .i64 (i:Int))=.cond (0<=(i:Int)/\(i:Int)<l.length) (.val (.da (dA x++r))):=by
 obtain⟨c,rfl,uO⟩:=h.at (sz:=6) (e:=e) (dp.1 hx).1;obtain⟨r,hr⟩:=Gu hx;exact⟨r,by rw[uO,hr]⟩
section
variable {C:de} {U:St} {K':AV->St->Prop} {Kp:AV->St->Prop} {k:AV->Prop} {v:AV} {l:List Nd} {i e:Nat} {x:Nd}
theorem GV (h:eW v l.length (cg l)) (hx:l[i]?=some x) (hk:∀ r,K' (.da (dA x++r)) U):(aE (some (e,6)) none v (.int .i64 (i:Int))).wp C U K' Kp:=by
 obtain⟨r,hr⟩:=h.atN hx (e:=e);rw[hr];have:=(dp.1 hx).1;exact⟨by omega,hk r⟩
theorem DP (h:eW v l.length (cg l)) (hx:l[i]?=some x) (hk:∀ r,k (.da (dA x++r))):az C (aE (some (e,6)) none v (.int .i64 (i:Int))) k:=by
 obtain⟨r,hr⟩:=h.atN hx (e:=e);rw[hr];have:=(dp.1 hx).1;exact⟨by omega,hk r⟩
end
theorem eW.dw {v:AV} {n:Nat} {cs:List AV} (h:eW v n cs):v.dw=true/\av v=[v]:=by
 rcases h with ⟨rfl,rfl,rfl⟩|⟨c,rfl⟩<;>exact⟨rfl,rfl⟩
theorem zc {U:St} {R:cV->St->Prop} {v:AV} {l:List Nd} {n:Nat} {x:Nd} (hv:eW v l.length (cg l)) (hx:l[n]?=some x) (h64:wh ((n:Int)+x.size))
 (h:∀ bn be bt ad,bn≠be->bn≠bt->be≠bt->U.live bn=none->U.live be=none->U.live bt=none->ad.box bn=some [.int .i64 (n:Nat)]->ad.box be=some [.int .i64 ((n:Int)+x.size)]->ad.box bt=some [v]->cX U ad->R (.ret (.func (.func 155) [] [.box bn 0,.box be 0,.box bt 0])) ad):ae K 81 [.agg [v],.int .i64 (n:Nat)] U R:=by
 refine Yx ?_;unfold aaC;rw[gd rfl];intro bt NX;rw[gd rfl];intro bn Sm;have mt:(U.new bt (.box (av (.agg [v])))).box bt=some [v]:=aD;have e1:=bg NX (x:=.box (av (.agg [v])));have fr1:U.live bt=none:=NX.1;generalize U.new bt (.box (av (.agg [v])))=aS at *;have e2:=bg Sm (x:=.box (av (.int .i64 (n:Nat))));have mn:(aS.new bn (.box (av (.int .i64 (n:Nat))))).box bn=some [.int .i64 (n:Nat)]:=aD;have ntn:=Sm.bO mt;have fr2:U.live bn=none:=e1.fresh Sm.1;generalize aS.new bn (.box (av (.int .i64 (n:Nat))))=bf at *;have mt2:=e2.aY mt;simp only[tH mn,eG,jE,bh,aJ,db,tH mt2];refine DP hv hx λ r=>?_;simp only[dC,aJ,dA,dK,List.drop,qf,jE,Fk];refine⟨h64,?_⟩;rw[cm];intro be xZ;have e3:=bg xZ (x:=.box [.int .i64 0]);have me:(bf.new be (.box [.int .i64 0])).box be=some [.int .i64 0]:=aD;have nne:=xZ.bO mn;have nte:=xZ.bO mt2;have fr3:U.live be=none:=(e1.trans e2).fresh xZ.1;refine⟨?_,?_⟩
 . intro b hb;simp only[eE,eH,gx,cK,fT,List.not_mem_nil,or_false]at hb;have:b=bn\/b=bt:=by
    rcases hb with h|h|h<;>simp_all
   rw[nJ];rcases this with rfl|rfl
   . rw[if_neg nne]
   . rw[if_neg nte]
 . rw[cI me];refine⟨⟨rfl,rfl,by simp⟩,aq.mk (h bn be bt _ nne ntn.symm nte.symm fr2 fr3 fr1 ?_ ?_ ?_ ((e1.trans (e2.trans e3)).set fr3))⟩
   . rw[aO nne]; exact e3.aY mn
   . rw[aT]; rfl
   . rw[aO nte]; exact e3.aY mt2
theorem y8 (l:List Nd) (en:Int):∀ (f p:Nat),(fO l en f p).length<=f
 | 0,_=>by simp[fO]
 | f+1,p=>by
   simp only[fO];split
   . split
     . have:=y8 l en f (p+(Nd.size ‹_›).toNat);simp; omega
     . simp
   . simp
theorem Fp {v:AV} {l:List Nd} {n:Nat} {en:Int} {bn be bt:Nat} {U:St} {B:AV->Qr->St->Prop} {Kn:St->Prop} {Ke:Nat->St->Prop} {Kr:St->Prop} {Kp:AV->St->Prop} (I:List Nat->St->Prop) (J:St->Prop)
 (hv:eW v l.length (cg l)) (hn:n<l.length) (hlen:l.length<=100000) (hen:en<=l.length)
 (Dz:∀ ks U,I ks U->U.box bn=some [.int .i64 (n:Nat)]/\U.box be=some [.int .i64 en]/\U.box bt=some [v])
 (EE:∀ ks U o L L',I ks U->U.loop o=some L->I ks (U.set o (.loop L')))
 (rE:∀ ks U o L,I ks U->U.dL o->I ks (U.new o (.loop L)))
 (hJ:∀ U o L L',J U->U.loop o=some L->J (U.set o (.loop L')))
 (body:∀ (ks:List Nat) (kg:Nat) (x:Nd) (aS:St) (o:Nat) (L1:gm) (q:Qr),I ks aS->l[kg]?=some x->(kg:Int)<en->0<x.size->n<kg->ks.length<l.length->(∃ r,fO l en l.length (n+1)=ks++kg::r)->aS.loop o=some L1 ->
   (∀ bf,I (ks++[kg]) bf->x.size<=100000->bf.loop o=some L1->q.n bf)->(∀ bf,J bf->bf.loop o=some L1->q.r bf)->B (.int .i64 (kg:Nat)) q aS)
 (fin:∀ ks aS o L,ks=fO l en l.length (n+1)->I ks aS->aS.loop o=some L->Kn (aS.del o))
 (W3:∀ aS o L,J aS->aS.loop o=some L->Kr (aS.del o))
 (h0:I [] U):sN K 1 (.func (.func 155) [] [.box bn 0,.box be 0,.box bt 0]) U (λ v q U=>q.E6 (λ U=>B v q U) U) Kn Ke Kr Kp:=by
 refine⟨by kernel_rfl,λ o L ho Kj Sh Y=>?_⟩;have I1:=rE _ _ o L h0 ho;have L8:=xr (U:=U) (b:=o) (L:=L);generalize U.new o (.loop L)=aS at *;refine It ?_;unfold LQ;rw[il (Dz _ _ I1).1,eG,bC,dO];refine⟨bI (by omega) (by omega),?_⟩;refine⟨λ m v0 v2 v3 v5 ad=>∃ ks f p,m=l.length-p/\v0=.te o/\v2=.box be 0/\v3=.box bt 0/\v5=.int .i64 (p:Nat)/\n<p/\p<=300000/\l.length-p<=f/\ks++fO l en f p=fO l en l.length (n+1)/\I ks ad/\∃ L1,ad.loop o=some L1/\L1.st .ready none=L/\L1.state=.ready/\L1.gL=none,
  ⟨_,[],l.length,n+1,rfl,rfl,rfl,rfl,by simp,by omega,by omega,by omega,rfl,I1,L,L8,by cases L; simp_all [gm.st],Kj,Sh⟩,?_⟩
 clear I1 L8;rintro m v0 v2 v3 v5 bf ⟨ks,f,p,rfl,rfl,rfl,rfl,rfl,hnp,hp3,hf,iW,I2,L1,ke,gr,CX,CW⟩;obtain⟨k1,k2,k3⟩:=Dz _ _ I2;rw[il k2,eG,bC];simp only[bV,al,bo,aP];have stop:fO l en f p=[]->aq (LL o Kn Ke Kr Kp) (.aK []) bf:=λ h=>by
  rw[h,gx]at iW;refine aq.mk ⟨L1,ke,by rw[CX]; simp,?_⟩;rw[CW];exact fin ks bf o L1 iW I2 ke
 by_cases aN:(p:Int)<en
 . have nj:p<l.length:=by omega
   obtain⟨x,hx⟩:∃ x,l[p]?=some x:=⟨l[p],by simp[nj]⟩;cases f with
   | zero=>omega
   | succ f =>
   have ya:fO l en (f+1) p=if 0<x.size then p::fO l en f (p+x.size.toNat) else []:=by
    simp only[fO,hx,aN,true_and]
   simp only[aN,dG,iY,cB,aJ,bh,db,tH k3,eG,jE,nw];refine DP hv hx λ r=>?_;simp only[dC,aJ,nw,dA,dK,List.drop,qf,jE,eM,aQ,if_true,al,cq];refine⟨λ hs=>?_,λ hs=>?_⟩
   . rw[if_pos hs]at ya;simp only[jz,zQ];refine Y _ _ _ L1 rfl ke gr ?_;refine⟨L1,ke,CX,?_⟩;have I3:=EE _ _ o L1 { L1 with state:=.busy } I2 ke
     have ta:ks.length<l.length:=by
      have:=y8 l en l.length (n+1);rw[<- iW,ya]at this;simp at this; omega
     refine body ks p x _ o { L1 with state:=.busy } _ I3 hx aN hs hnp ta ⟨_,by rw[<- iW,ya]⟩ gy (λ bR I4 rZ uM=>?_) λ bR hJ3 uM=>?_
     . refine⟨_,uM,?_⟩;have I5:=EE _ _ o _ { L1 with state:=.ready,gL:=none } I4 uM
       obtain⟨j1,j2,j3⟩:=Dz _ _ I5;simp only[bE,eT,al,dm,bq,bh,db];rw[il j3,eG,bC];refine GV hv hx λ r=>?_;simp only[dC,al,dA,dK,List.drop,oK,bC,dO];refine⟨bI (by omega) (by omega),_,?_,ks++[p],f,p+x.size.toNat,rfl,rfl,rfl,rfl,?_,by omega,by omega,by omega,?_,I5,_,gy,by rw[<- gr]; rfl,rfl,rfl⟩
       . omega
       . congr 1; omega
       . rw[<- iW,ya]; simp
     . refine⟨_,uM,?_⟩;simp only[bE,eT,al,fx,bH];refine aq.mk ⟨_,gy,by simp,?_⟩;exact W3 _ o _ (hJ _ o _ _ hJ3 uM) gy
   . rw[if_neg hs]at ya;exact stop ya
 . simp only[aN,eS,show (false==true)=false from rfl,cN,aQ,bZ,if_false,al,bq];refine stop ?_;cases f with
   | zero=>rfl
   | succ f =>
     simp only[fO];split
     . rw[if_neg (λ h=>aN h.1)]
     . rfl
end Go.Rip
namespace Go.Rip
open Go.Proofs Go.RowKit
def qP (ar U:St) (v:AV) (es:List Int):Prop:=(es=[]/\v=.ag)\/∃ b fV,v=.ms b 0 es.length 1 3/\U.box b=some (es.map (.int .i64)++fV)/\ar.live b=none
section
variable {ar U:St} {R:cV->St->Prop} {K':AV->St->Prop} {Kp:AV->St->Prop}
theorem Z5 {b:Nat} {n a:Int} (hb:U.box b=some [.int .i64 n]) (h:R (.ret (.bool (decide (a<=n)))) U):ae K 133 [.int .i64 a,.box b 0] U R:=by
 refine UC ?_;unfold UB;rw[il hb,eG,bC];simp only[nG,al];exact aq.mk h
theorem ah9 {b:Nat} {L:List AV} {es:List Int} {fV:List AV} (h:U.box b=some L) (hL:L=es.map (.int .i64)++fV) {i n:Nat} (hi:i<es.length) (hn:i<n) (hk:K' (.int .i64 es[i]) U) :
 (aE (some (3,1)) none (.ms b 0 n 1 3) (.int .i64 (i:Nat))).wp K U (λ v U=>(ak (some (false,1)) v U).wp K U K' Kp) Kp:=by
 rw[CC];refine⟨⟨by omega,by omega,rfl⟩,?_⟩;rw[il h];have:L.drop (0+(i:Int).toNat*1)=.int .i64 es[i]::((es.map (AV.int .i64)).drop (i+1)++fV):=by
  rw[hL,fW,Nat.mul_one,db,List.drop_append_of_le_length (by simp; omega),gM (by simpa using hi)];simp
 rw[this,bC];exact hk
theorem HD {b bn:Nat} {es:List Int} {fV:List AV} {n:Int} (hb:U.box b=some (es.map (.int .i64)++fV)) (hn:U.box bn=some [.int .i64 n]) (hl:es.length<=100000)
 (h:(∃ k,k<es.length/\(es.take k).all (λ a=>decide (n<a))=true/\(∃ hk:k<es.length,es[k]<=n)/\R (.ret (.int .i64 (k:Nat))) U)\/(es.all (λ a=>decide (n<a))=true/\R (.ret (.int .i64 (-1))) U)) :
 ae K 210 [.ms b 0 es.length 1 3,.func (.func 133) [] [.box bn 0]] U R:=by
 refine Iy ?_;unfold LV;simp only[La,al];refine⟨λ m v0 v1 v7 v8 ad=>∃ i:Nat,m=es.length-i/\i<=es.length/\v0=.ms b 0 es.length 1 3/\v1=.func (.func 133) [] [.box bn 0]/\v7=.int .i64 es.length/\v8=.int .i64 i/\ad=U/\(es.take i).all (λ a=>decide (n<a))=true,⟨_,0,rfl,by omega,rfl,rfl,rfl,rfl,rfl,by simp⟩,?_⟩;rintro m v0 v1 v7 v8 ad ⟨i,rfl,hi,rfl,rfl,rfl,rfl,rfl,ck⟩;simp only[bV,al,cq];have NU:∀ (k:Nat) (hk:k<es.length),(es.take i).all (λ a=>decide (n<a))=true->k<i->n<es[k]:=λ k hk ha Aa=>by
  rw[fm]at ha;have:es[k]∈es.take i:=by
   rw[List.mem_iff_getElem];exact⟨k,by simp; omega,by simp⟩
  simpa using ha _ this
 refine⟨λ aN=>?_,λ kV=>?_⟩
 . have aN:i<es.length:=by omega
   refine ah9 hb rfl aN aN ?_;simp only[jz,show fC K.P 133=true by kernel_rfl,if_true,mL,eH,dK];refine Z5 hn ?_;simp only[bE,cq];refine⟨λ hle=>?_,λ uN=>?_⟩
   . rcases h with ⟨k,hk,rX,⟨_,gD⟩,hR⟩|⟨hA,_⟩
     . have:k=i:=by
        rcases Nat.lt_trichotomy k i with h|h|h
        . have:=NU k hk ck h; omega
        . exact h
        . rw[fm]at rX;have hm:es[i]∈es.take k:=by
           rw[List.mem_iff_getElem];exact⟨i,by simp; omega,by simp⟩
          have:=rX _ hm;simp at this; omega
       subst this;exact aq.mk hR
     . rw[fm]at hA;have:=hA es[i] (List.getElem_mem aN);simp at this; omega
   . rw[dO];refine⟨bI (by omega) (by omega),es.length-(i+1),by omega,i+1,rfl,by omega,rfl,rfl,rfl,by simp,rfl,?_⟩;rw[tK,qM aN,List.all_append,ck];simp; omega
 . have hi:i=es.length:=by omega
   subst hi;rw[tJ]at ck;rcases h with ⟨k,hk,rX,⟨_,gD⟩,hR⟩|⟨_,hR⟩
   . rw[fm]at ck;have:=ck es[k] (List.getElem_mem hk);simp at this; omega
   . exact aq.mk hR
theorem Hk:∀ (es:List Int) (n:Int),(∃ k,∃ hk:k<es.length,(es.take k).all (λ a=>decide (n<a))=true/\es[k]<=n)\/es.all (λ a=>decide (n<a))=true
 | [],n=>.inr rfl
 | a::es,n=>by
   by_cases ha:n<a
   . rcases Hk es n with ⟨k,hk,h1,h2⟩|h
     . exact .inl ⟨k+1,by simp; omega,by simp[ha,h1],by simpa using h2⟩
     . exact .inr (by simp[ha,h])
   . exact .inl ⟨0,by simp,by simp,by simp; omega⟩
theorem RU {v:AV} {bn:Nat} {es:List Int} {n:Int} (hv:qP ar U v es) (hn:U.box bn=some [.int .i64 n]) (hl:es.length<=100000) (hE:cX ar U) (Sm:∀ b,ar.live b=none->v=.ms b 0 es.length 1 3->bn≠b)
 (h:∀ ad v',qP ar ad v' (es.filter (n<·))->cX ar ad->(∀ b x,(∀ k,v≠.ms b 0 k 1 3)->U.box b=some x->ad.box b=some x)->(∀ b k,v'=.ms b 0 k 1 3->v=.ms b 0 es.length 1 3)->R (.ret v') ad):ae K 132 [v,.func (.func 133) [] [.box bn 0]] U R:=by
 refine UA ?_;unfold Uz;rcases hv with ⟨rfl,rfl⟩|⟨b,fV,rfl,hb,wA⟩
 ·
  have aiw:ae K 210 [.ag,.func (.func 133) [] [.box bn 0]] U (ah (λ v10 U =>
   (aw .eql (BT.mk false false false none false) true v10 (AV.int .i64 (-1))).wp K U (λ v12 U=>ax v12 (aq R .ag U) False) (aa R)) (aa R)):=by
   refine Iy ?_;unfold LV;simp only[len_nil,al];refine⟨λ m v0 v1 v7 v8 ad=>v7=.int .i64 0/\v8=.int .i64 0/\ad=U,⟨0,rfl,rfl,rfl⟩,?_⟩;rintro m v0 v1 v7 v8 ad ⟨rfl,rfl,rfl⟩;simp only[bV,al,show decide ((0:Int)<0)=false from rfl,bq];refine aq.mk ?_;simp only[bE,bA,al,dG,bH];exact aq.mk (h ad .ag (.inl ⟨rfl,rfl⟩) hE (λ _ _ _ h=>h) (λ _ _ e=>by cases e))
  refine aiw.mono λ r ad hr=>?_;cases r with
  | panic x=>exact hr
  | ret x =>
    simp only[bE]at hr ⊢;refine aC.wp_mono (λ v U hv=>?_) _ hr;cases v<;>simp only[ax]at hv ⊢
    exact⟨hv.1,λ e=>(hv.2 e).elim⟩
 . have Hq:bn≠b:=Sm b wA rfl;rcases Hk es n with ⟨k,hk,rX,gD⟩|ck
   . refine HD hb hn hl (.inl ⟨k,hk,rX,⟨hk,gD⟩,?_⟩);have hkn:¬ ((k:Nat):Int)=-1:=by omega
     simp only[bE,bA,al,hkn,eS,bq,dO];refine⟨bI (by omega) (by omega),?_⟩;have Zx:(es.take (k+1)).filter (n<·)=es.take k:=by
      rw[tK,qM hk,List.filter_append];have h1:(es.take k).filter (n<·)=es.take k:=by
       rw[List.filter_eq_self];intro a ha;rw[fm]at rX;exact rX a ha
      rw[h1];have:¬ n<es[k]:=by omega
      simp[this]
     refine⟨λ m v0 v1 v5 v6 ad=>∃ (i j:Nat) (arr:List AV),m=es.length-j/\v0=.ms b 0 es.length 1 3/\v1=.func (.func 133) [] [.box bn 0]/\v5=.int .i64 (i:Nat)/\v6=.int .i64 (j:Nat)/\j<=es.length/\i<j/\ad.box b=some arr/\arr.take i=((es.take j).filter (n<·)).map (.int .i64)/\i=((es.take j).filter (n<·)).length/\arr.drop j=(es.drop j).map (.int .i64)++fV/\arr.length=es.length+fV.length/\(∀ c,c≠b->ad.live c=U.live c),
      ⟨_,k,k+1,es.map (.int .i64)++fV,rfl,rfl,rfl,rfl,by simp,by omega,by omega,hb,?_,?_,?_,by simp,λ _ _=>rfl⟩,?_⟩
     . rw[Zx,List.take_append_of_le_length (by simp; omega),<- List.map_take]
     . rw[Zx]; simp; omega
     . rw[List.drop_append_of_le_length (by simp; omega),<- List.map_drop]
     . rintro m v0 v1 v5 v6 ad ⟨i,j,arr,rfl,rfl,rfl,rfl,rfl,hj,gq,eY,Zs,ha2,ha3,ha4,pQ⟩;simp only[La,al,bV,cq];refine⟨λ aN=>?_,λ kV=>?_⟩
       . have aN:j<es.length:=by omega
         intro jj CS;have Hv:ad.box bn=some [.int .i64 n]:=by rw[dS (pQ bn Hq)]; exact hn
         rw[CC];refine⟨⟨by omega,by omega,rfl⟩,?_⟩;rw[il eY];obtain⟨rr,hd⟩:∃ rr,arr.drop (0+(j:Int).toNat*1)=.int .i64 es[j]::rr:=by
          rw[fW,Nat.mul_one,db,ha3,gM aN,dH];exact⟨_,rfl⟩
         rw[hd,bC];simp only[jz,show fC K.P 133=true by kernel_rfl,if_true,mL,eH,dK];refine Z5 Hv ?_;have p7:es.take (j+1)=es.take j++[es[j]]:=by rw[tK,qM aN]; rfl
         have CP:arr.drop (j+1)=(es.drop (j+1)).map (.int .i64)++fV:=by
          rw[<- List.drop_drop,ha3,gM aN,dH]; rfl
         simp only[bE,eT,al]
         by_cases hle:es[j]<=n
         . simp only[hle,dG,dm,bq];refine CS _ _ _ _ _ ?_;simp only[dO];refine⟨bI (by omega) (by omega),es.length-(j+1),by omega,i,j+1,arr,rfl,rfl,rfl,rfl,by simp,by omega,by omega,eY,?_,?_,CP,ha4,pQ⟩
           . rw[p7,List.filter_append,Zs];have:¬ n<es[j]:=by omega
             simp[this]
           . rw[p7,List.filter_append];have:¬ n<es[j]:=by omega
             simp only[List.filter_cons,this,eS,bZ,if_false,List.filter_nil,gx];exact ha2
         . simp only[hle,eS,fx,bH];rw[CC];refine⟨⟨by omega,by omega,rfl⟩,?_⟩;rw[cI eY];refine⟨⟨rfl,rfl,by simp; omega⟩,?_⟩;rw[dO];refine⟨bI (by omega) (by omega),?_⟩;refine CS _ _ _ _ _ ?_;simp only[dO];have CZ:ay arr (0+(i:Int).toNat*1) (av (.int .i64 es[j]))=arr.take i++[.int .i64 es[j]]++arr.drop (i+1):=by
            simp[ay]
           have Kz:(arr.take i).length=i:=by simp; omega
           refine⟨bI (by omega) (by omega),es.length-(j+1),by omega,i+1,j+1,_,rfl,rfl,rfl,by simp,by simp,by omega,by omega,aT,?_,?_,?_,?_,λ c hc=>by rw[dW,if_neg hc]; exact pQ c hc⟩
           . rw[CZ,List.take_append_of_le_length (by simp; omega),qg (by simp; omega),Zs,p7,List.filter_append];have:n<es[j]:=by omega
             simp[this]
           . rw[p7,List.filter_append];have:n<es[j]:=by omega
             simp only[List.filter_cons,this,dG,if_true,List.filter_nil,cO,eX,k0];omega
           . rw[CZ,<- CP];rw[List.drop_append,List.drop_eq_nil_of_le (by simp; omega),eH,List.drop_drop];congr 1;simp;omega
           . rw[CZ]; simp; omega
       . have hje:j=es.length:=by omega
         subst hje;rw[tJ]at Zs ha2;simp only[eD,eI,wp_cond,al];refine⟨⟨by omega,by omega,by omega,by omega,trivial⟩,?_⟩;simp only[Em,eY,wp_cond,nD];refine⟨⟨trivial,by simp; omega⟩,⟨by omega,by omega,by omega,by simp,trivial⟩,?_⟩;refine aq.mk (h _ _ (.inr ⟨b,(ay arr (0+(i:Int).toNat*1) (bT ((es.length:Int).toNat-(i:Int).toNat) [.int .i64 0])).drop i,?_,?_,wA⟩) ?_ ?_ ?_)
         . simp[ha2]
         . rw[aT];congr 1;have hz:(bT (es.length-i) [AV.int .i64 0]).length=es.length-i:=by simp[mX]
           simp only[fW,Nat.mul_one,db]
           conv=>lhs; rw[<- List.take_append_drop i (ay arr i _)]
           congr 1;simp only[ay,dc];rw[List.take_append_of_le_length (by simp; omega),qg (by simp; omega)];exact Zs
         . refine cX.set (λ c x e=>?_) wA
           by_cases hc:c=b
           . subst hc; rw[wA]at e; cases e
           . rw[pQ c hc]; exact hE c x e
         . intro c x hc hx;have Zt:c≠b:=λ e=>hc es.length (by rw[e]);rw[aO Zt,dS (pQ c Zt)]; exact hx
         . intro c k e;simp only[AV.ms.injEq]at e;rw[e.1]
   . refine HD hb hn hl (.inr ⟨ck,?_⟩);simp only[bE,bA,al,dG,bH];have hf:es.filter (n<·)=es:=by
      rw[List.filter_eq_self];intro a ha;rw[fm]at ck;exact ck a ha
     exact aq.mk (h U _ (by rw[hf]; exact .inr ⟨b,fV,rfl,hb,wA⟩) hE (λ _ _ _ h=>h) (λ b' k e=>by cases e; rfl))
end
end Go.Rip
namespace Go.Rip
open Go.Proofs Go.RowKit
section
variable {ar U:St} {R:cV->St->Prop} {K':AV->St->Prop} {Kp:AV->St->Prop} {v:AV} {es:List Int}
theorem WS (h:qP ar U v es):cr (some false) v=.val (.int .i64 es.length):=by
 rcases h with ⟨rfl,rfl⟩|⟨b,fV,rfl,_,_⟩<;>rfl
theorem WR {bx:Nat} {a:Int} (hv:qP ar U v es) (hy:U.box bx=some [.int .i64 a]) (E:cX ar U) (hl:es.length<=100000) (h:∀ ad v',qP ar ad v' (es++[a])->cX ar ad->K' v' ad) :
 (dB (some (3,1)) true v (.ms bx 0 1 1 3) U).wp K U K' Kp:=by
 have xn:pa U (.ms bx 0 1 1 3)=some (1,[.int .i64 a]):=by simp[pa,hy]
 rcases hv with ⟨rfl,rfl⟩|⟨b,fV,rfl,hb,wA⟩
 . simp only[dB,xn,wp_cond];refine⟨rfl,by omega,λ b hf=>?_⟩;exact h _ _ (.inr ⟨b,[],rfl,by rw[show U.so none=U from rfl]; exact aD,E.fresh hf.1⟩) (E.new hf)
 . refine BV hb xn ⟨rfl,by simp,by omega⟩ λ b' hf=>?_;refine h _ _ (.inr ⟨b',[],by simp,?_,?_⟩) ((E.del wA).new hf)
   . rw[aD]; simp
   . have hd:=hf.1
     by_cases e:b'=b
     . rw[e]; exact wA
     . rw[jX,if_neg e]at hd; exact E.fresh hd
end
theorem Eu {v:AV} {l:List Nd} (hv:eW v l.length (cg l)) (hc:closed v=true) (hl:l.length<=100000) (h0:l≠[]) (hs:∀ x∈l,0<=x.size/\x.size<=100000) (wE:mQ l<=l.length):Pure K 69 [.agg [v]] (.bool (jU l)):=by
 refine Pure.of (by simp[cD,closed,hc]) rfl (λ U=>rfl) λ R hR=>?_;refine Ys ?_;unfold aax;rw[gd rfl];intro b1 iN;have m1:((bU ⟨.e,0⟩).new b1 (.box (av (.agg [v])))).box b1=some [v]:=aD;generalize (bU _).new b1 _=ar at *;clear iN;simp only[bh,al,db];rw[il m1,eG,bC,hv.len,al];refine⟨λ m v1 v2 v3 v8 v9 v10 ad=>∃ (i:Nat) (es:List Int),m=l.length-i/\v1=.box b1 0/\v2=.bool false/\v8=v/\v9=.int .i64 l.length/\v10=.int .i64 (i:Nat)/\i<=l.length/\qP ar ad v3 es/\es.length<=i/\jd (l.drop i) i es=jd l 0 []/\cX ar ad,
  ⟨_,0,[],rfl,rfl,rfl,rfl,rfl,rfl,by omega,.inl ⟨rfl,rfl⟩,by simp,rfl,cX.refl _⟩,?_⟩
 rintro m v1 v2 v3 v8 v9 v10 aS ⟨i,es,rfl,rfl,rfl,rfl,rfl,rfl,hi,AU,hel,hg,E1⟩;simp only[bV,al,cq];refine⟨λ aN=>?_,λ kV=>?_⟩
 . have aN:i<l.length:=by omega
   obtain⟨x,hx⟩:∃ x,l[i]?=some x:=⟨l[i],by simp[aN]⟩;have AT:l.drop i=x::l.drop (i+1):=by
    rw[gM aN];have:=(dp.1 hx).2;rw[this]
   rw[AT,jd]at hg;refine GV hv hx λ r=>?_;rw[tS];refine⟨by simp[dA],?_⟩;have Kk:(dA x++r).take 6=dA x:=by simp[dA]
   rw[Kk,cm];intro b4 gk;rw[cm];intro b5 lx;have m4:(aS.new b4 (.box [.int .i64 0])).box b4=some [.int .i64 0]:=aD;have C6:=lx.bO m4;have f4:=E1.fresh gk.1;have E2:=E1.new gk (x:=.box [.int .i64 0]);have Xm:qP ar (aS.new b4 (.box [.int .i64 0])) v3 es/\(∀ b,v3=.ms b 0 es.length 1 3->b4≠b):=by
    rcases AU with h|⟨b,fV,rfl,h2,h3⟩
    . exact⟨.inl h,λ b e=>by rw[h.2]at e; cases e⟩
    . have:=gk.bO h2;exact⟨.inr ⟨b,fV,rfl,by rw[oU this]; exact h2,h3⟩,λ b' e=>by cases e; exact this.symm⟩
   obtain⟨Xm,Xq⟩:=Xm;clear AU;generalize aS.new b4 (.box [.int .i64 0])=bf at *;have m5:(bf.new b5 (.box [AV.int .u8 0,AV.str [],AV.int .i64 0,AV.int .i64 0,AV.int .i64 0,AV.int .i64 0])).box b5=some [AV.int .u8 0,AV.str [],AV.int .i64 0,AV.int .i64 0,AV.int .i64 0,AV.int .i64 0]:=aD;have f5:=E2.fresh lx.1;have E3:=E2.new lx (x:=.box [AV.int .u8 0,AV.str [],AV.int .i64 0,AV.int .i64 0,AV.int .i64 0,AV.int .i64 0]);have m4':=(bg lx (x:=.box [AV.int .u8 0,AV.str [],AV.int .i64 0,AV.int .i64 0,AV.int .i64 0,AV.int .i64 0])).aY m4;have Xn:qP ar (bf.new b5 (.box [AV.int .u8 0,AV.str [],AV.int .i64 0,AV.int .i64 0,AV.int .i64 0,AV.int .i64 0])) v3 es/\(∀ b,v3=.ms b 0 es.length 1 3->b5≠b):=by
    rcases Xm with h|⟨b,fV,rfl,h2,h3⟩
    . exact⟨.inl h,λ b e=>by rw[h.2]at e; cases e⟩
    . have:=lx.bO h2;exact⟨.inr ⟨b,fV,rfl,by rw[oU this]; exact h2,h3⟩,λ b' e=>by cases e; exact this.symm⟩
   obtain⟨Xn,aeN⟩:=Xn;generalize bf.new b5 (.box [AV.int .u8 0,AV.str [],AV.int .i64 0,AV.int .i64 0,AV.int .i64 0,AV.int .i64 0])=bR at *;rw[cI m4'];refine⟨⟨rfl,rfl,by simp⟩,?_⟩;rw[cI (show (bR.set b4 _).box b5=some _ by rw[aO C6.symm]; exact m5)];refine⟨⟨rfl,rfl,by simp[dA]⟩,?_⟩;have E4:=(E3.set f4 (x:=.box (ay [.int .i64 0] 0 (av (.int .i64 (i:Nat)))))).set f5 (x:=.box (ay [AV.int .u8 0,AV.str [],AV.int .i64 0,AV.int .i64 0,AV.int .i64 0,AV.int .i64 0] 0 (av (.agg (dA x)))));have g4:((bR.set b4 (.box (ay [.int .i64 0] 0 (av (.int .i64 (i:Nat)))))).set b5 (.box (ay [AV.int .u8 0,AV.str [],AV.int .i64 0,AV.int .i64 0,AV.int .i64 0,AV.int .i64 0] 0 (av (.agg (dA x)))))).box b4=some [.int .i64 (i:Nat)]:=by
    rw[aO C6,aT]; rfl
   have g5:((bR.set b4 (.box (ay [.int .i64 0] 0 (av (.int .i64 (i:Nat)))))).set b5 (.box (ay [AV.int .u8 0,AV.str [],AV.int .i64 0,AV.int .i64 0,AV.int .i64 0,AV.int .i64 0] 0 (av (.agg (dA x)))))).box b5=some (dA x):=by
    rw[aT]; rfl
   have aeA:qP ar ((bR.set b4 (.box (ay [.int .i64 0] 0 (av (.int .i64 (i:Nat)))))).set b5 (.box (ay [AV.int .u8 0,AV.str [],AV.int .i64 0,AV.int .i64 0,AV.int .i64 0,AV.int .i64 0] 0 (av (.agg (dA x)))))) v3 es:=by
    rcases Xn with h|⟨b,fV,rfl,h2,h3⟩
    . exact .inl h
    . exact .inr ⟨b,fV,rfl,by rw[aO (aeN b rfl).symm,aO (Xq b rfl).symm]; exact h2,h3⟩
   generalize (bR.set b4 (.box (ay [.int .i64 0] 0 (av (.int .i64 (i:Nat)))))).set b5 (.box (ay [AV.int .u8 0,AV.str [],AV.int .i64 0,AV.int .i64 0,AV.int .i64 0,AV.int .i64 0] 0 (av (.agg (dA x)))))=cP at *;refine RU aeA g4 (by omega) E4 (λ b _ e=>Xq b e) λ du v' aeB E5 hk5 _=>?_;have sA:∀ b y,b4=b\/b5=b->cP.box b=some y->du.box b=some y:=λ b y hb hy=>by
    refine hk5 b y (λ k e=>?_) hy;rcases aeA with h|⟨b',fV,rfl,h2,h3⟩
    . rw[h.2]at e; cases e
    . simp only[AV.ms.injEq]at e;rcases hb with rfl|rfl
      . exact Xq b' rfl e.1.symm
      . exact aeN b' rfl e.1.symm
   have g4':=sA b4 _ (.inl rfl) g4;have g5':=sA b5 _ (.inr rfl) g5;simp only[bE,WS aeB,al,eM,cq];have CQ:(es.filter ((i:Int)<·)).length<=es.length:=List.length_filter_le _ _;refine⟨λ uN=>?_,λ hle=>?_⟩
   . rw[if_pos (by omega)]at hg;refine aq.mk ?_;have:jU l=true:=by simp[jU,<- hg]
     rw[this]at hR;exact hR _
   . rw[if_neg (by omega)]at hg;have hsx:=hs x (gw hx);rw[il g4',eG,bC];simp only[bh,al,db];rw[il g5'];simp only[dA,List.drop,bC,dO];refine⟨bI (by omega) (by omega),?_⟩;rw[ux];refine⟨by omega,?_⟩;rw[ff (o:=0) (s:=1) rfl];refine⟨⟨rfl,rfl,by simp[bT]⟩,?_⟩;rw[yE];refine⟨rfl,λ bx wC=>?_⟩;have aiD:qP ar (du.new bx (.box (ay (bT 1 [AV.int .i64 0]) 0 (av (.int .i64 ((i:Int)+x.size)))))) v' (es.filter ((i:Int)<·)):=by
      rcases aeB with h|⟨b',fV,rfl,h2,h3⟩
      . exact .inl h
      . exact .inr ⟨b',fV,rfl,by rw[oU (wC.bO h2)]; exact h2,h3⟩
     refine WR aiD (by rw[aD]; rfl) (E5.new wC) (by omega) λ jk v7 aiE E7=>?_;refine⟨bI (by omega) (by omega),l.length-(i+1),by omega,i+1,_,rfl,rfl,rfl,rfl,rfl,by simp,by omega,aiE,by simp; omega,hg,E7⟩
 . have hi:i=l.length:=by omega
   subst hi;rw[List.drop_length]at hg;have Su:jd l 0 []=false:=hg.symm;have uN:jU l=decide (24<(fO l (mQ l) l.length 1).length):=by simp[jU,Su]
   rw[uN]at hR;rw[cm];intro b6 rW;have m6:(aS.new b6 (.box [.int .i64 0])).box b6=some [.int .i64 0]:=aD;have m1':=(E1.new rW (x:=.box [.int .i64 0])).aY m1;have n16:=rW.bO (E1.aY m1);generalize aS.new b6 (.box [.int .i64 0])=bf at *;rw[cI m6];refine⟨⟨rfl,rfl,by simp⟩,?_⟩;have H5:(bf.set b6 (.box (ay [.int .i64 0] 0 (av (.int .i64 0))))).box b6=some [.int .i64 (([]:List Nat).length:Nat)]:=by rw[aT]; rfl
   have ajl:(bf.set b6 (.box (ay [.int .i64 0] 0 (av (.int .i64 0))))).box b1=some [v8]:=by rw[aO n16]; exact m1'
   generalize bf.set b6 (.box (ay [.int .i64 0] 0 (av (.int .i64 0))))=bR at *;rw[ph ajl];refine⟨by simp,?_⟩;refine pK [v8] (by simp[uB,hv.dw,ay]) ?_;cases l with
   | nil=>exact absurd rfl h0
   | cons x0 l =>
   have hx0:=hs x0 (by simp);refine zc (n:=0) (x:=x0) hv rfl (bI (by simp; omega) (by simp; omega)) λ bn be bt cP d1 d2 d3 f1 f2 f3 k1 k2 k3 e4=>?_;have m6n:=e4.aY H5;have en:(((0:Nat):Int)+x0.size)=mQ (x0::l):=by simp[mQ]
   rw[en]at k2;have nn:bn≠b6:=λ e=>by rw[e]at f1; exact ct H5 f1
   have ne:be≠b6:=λ e=>by rw[e]at f2; exact ct H5 f2
   have nt:bt≠b6:=λ e=>by rw[e]at f3; exact ct H5 f3
   refine Fp (λ ks U=>U.box b6=some [.int .i64 (ks.length:Nat)]/\U.box bn=some [.int .i64 ((0:Nat):Int)]/\U.box be=some [.int .i64 (mQ (x0::l))]/\U.box bt=some [v8]/\True) (λ _=>False) hv (by simp) (by omega) wE
    (λ ks U h=>h.2.imp id λ h=>h.imp id λ h=>h.1) (λ ks U o L L' h hL=>?_) (λ ks U o L h ho=>?_) (λ _ _ _ _ h=>h.elim) (λ ks kg x du o L1 q hI hx aN mD hnk ta _ hL hn hr=>?_) (λ ks du o L iW hI hL=>?_) (λ _ _ _ h=>h.elim) ⟨m6n,k1,k2,k3,trivial⟩
   . exact⟨by rw[aO (bY h.1 hL)]; exact h.1,by rw[aO (bY h.2.1 hL)]; exact h.2.1,by rw[aO (bY h.2.2.1 hL)]; exact h.2.2.1,by rw[aO (bY h.2.2.2.1 hL)]; exact h.2.2.2.1,h.2.2.2.2⟩
   . have e:=bg ho (x:=.loop L);exact⟨e.aY h.1,e.aY h.2.1,e.aY h.2.2.1,e.aY h.2.2.2.1,h.2.2.2.2⟩
   . obtain⟨i1,i2,i3,i4,i5⟩:=hI;rw[il i1,eG,bC,dO];refine⟨bI (by omega) (by omega),?_⟩;rw[cI i1];refine⟨⟨rfl,rfl,by simp⟩,?_⟩;refine hn _ ⟨by rw[aT]; simp[ay],by rw[aO nn]; exact i2,by rw[aO ne]; exact i3,by rw[aO nt]; exact i4,trivial⟩ (hs x (gw hx)).2 (by rw[gU]; exact hL; rw[dW,if_neg (bY i1 hL).symm])
   . obtain⟨i1,i2,i3,i4,i5⟩:=hI;have i1':(du.del o).box b6=some [.int .i64 (ks.length:Nat)]:=by rw[jl (bY i1 hL)]; exact i1
     show (ak (some (false,1)) (.box b6 0) (du.del o)).wp K (du.del o) _ _;rw[il i1',eG,bC];simp only[eM,al];subst iW;refine aq.mk ?_;have:=hR (du.del o);have e:decide ((24:Int)<((fO (x0::l) (mQ (x0::l)) (x0::l).length (0+1)).length:Nat))=decide (24<(fO (x0::l) (mQ (x0::l)) (x0::l).length 1).length):=by
      rw[qO]; simp only[eg,db]; omega
     rw[e]; exact this
end Go.Rip
namespace Go.Rip
open Go.Proofs Go.RowKit
theorem nx {U:St} {a b:Nat} {l:List AV} (h:b≠a):(U.cx a l).live b=U.live b:=by
 simp[St.cx,St.set,h]
theorem l8.cx {r:Nat} {U ad:St} {b:Nat} {l:List AV} (h:l8 r U ad) (n:U.live b=none):l8 r U (ad.cx b l):=λ c y m e=>by
 by_cases hc:c=b
 . subst hc; rw[n]at e; cases e
 . rw[nx hc]; exact h c y m e
theorem eV.scalar {a:AV} {ns:List Nd} (hk:eV false [a] ns):a.scalar=true:=by
 generalize hb:false=b at hk;generalize hl:[a]=la at hk;cases hk with
 | mk _ _=>cases hl; rfl
 | nil=>cases hl
 | cons _ _=>cases hb
section
variable {X:Rx} {r i:Nat} {U:St} {R:cV->St->Prop}
theorem Q1 (hr:U.box r=some (rd X i)) (hi:i<=X.L.length) (h1:∀ ns j a ad,mN X.L X.E (fuel X.L) i=.ok ns j->j<=X.L.length->i<j->eV false [a] ns->iD r (rd X j) U ad->R (.ret (.aK [a,.int .i64 0,.bool true])) ad)
 (h2:∀ j ad,mN X.L X.E (fuel X.L) i=.bad j->i<=j->j<=X.L.length->iD r (rd X j) U ad->R (.ret (.aK [.a8,.int .i64 (dv X.L X.E j),.bool false])) ad):ae K 54 [.box r 0,.func (.func 55) [.box r 0] []] U R:=by
 refine D5 _ _ _ _ _ _ (by kernel_rfl) λ a b c ha hb hc=>?_;have na:=ha.bO hr;have fa:U.live a=none:=ha.1;have e1:=bg ha (x:=.box [.a8]);have ka:(U.new a (.box [.a8])).box a=some [.a8]:=aD;generalize U.new a (.box [.a8])=aS at *;have nb:=hb.bO (e1.aY hr);have nab:=hb.bO ka;have fb:U.live b=none:=e1.fresh hb.1;have e2:=bg hb (x:=.box [.int .i64 0]);have kb:(aS.new b (.box [.int .i64 0])).box b=some [.int .i64 0]:=aD;have ka2:=e2.aY ka;generalize aS.new b (.box [.int .i64 0])=bf at *;have nc:=hc.bO ((e1.trans e2).aY hr);have nac:=hc.bO ka2;have nbc:=hc.bO kb;have fc:U.live c=none:=(e1.trans e2).fresh hc.1;have e3:=bg hc (x:=.box [.bool false]);have kc:(bf.new c (.box [.bool false])).box c=some [.bool false]:=aD;have ka3:=e3.aY ka2;have kb3:=e3.aY kb;have e13:=e1.trans (e2.trans e3);have Ad:=e13.aY hr;generalize bf.new c (.box [.bool false])=bR at *;have hg:=EO (L:=X.L) (E:=X.E) hi;refine XC X hi r bR _ Ad ⟨λ ns j e hj v ad hk A=>?_,λ j e ad A=>?_⟩
 . rw[e]at hg;refine⟨hk.scalar,⟨_,A.ex.aY na.symm ka3⟩,⟨_,A.ex.aY nb.symm kb3⟩,⟨_,A.ex.aY nc.symm kc⟩,?_⟩;refine h1 ns j v _ e hj hg.1 hk ⟨?_,(((e13.J5.trans A.ex).cx fa).cx fb).cx fc⟩;rw[dS (nx nc),dS (nx nb),dS (nx na)];exact A.box
 . rw[e]at hg;refine⟨_,rfl,⟨_,A.ex.aY na.symm ka3⟩,⟨_,A.ex.aY nb.symm kb3⟩,⟨_,A.ex.aY nc.symm kc⟩,λ q hq=>?_⟩;have hqr:=hq.bO A.box;refine h2 j _ e hg.1 hg.2 ⟨?_,((((e13.J5.trans A.ex).new hq).cx fa).cx fb).cx fc⟩;rw[dS (nx nc),dS (nx nb),dS (nx na),oU hqr];exact A.box
end
def fg (l:List Nd):AV:=if l=[] then .ag else .vec l.length .iE (cg l)
def lQ (l:List Nd):List Nd×Int:=if 900<(node 1 [] 0 0 0 l).length\/jU (node 1 [] 0 0 0 l)=true then ([],5) else (node 1 [] 0 0 0 l,0)
theorem eV.ahB:∀ {b:Bool} {ks:List AV} {l:List Nd},eV b ks l->∀ x∈l,1<=x.size/\x.size<=l.length:=by
 intro b ks l h
 induction h with
 | mk h1 h2 ih =>
   intro x hx;simp only[node,cK]at hx;rw[cj];rcases hx with rfl|hx
   . simp; omega
   . have:=ih x hx; omega
 | nil=>intro x hx; cases hx
 | cons h1 h2 i1 i2 =>
   intro x hx;simp only[fT]at hx;rw[cO];rcases hx with hx|hx
   . have:=i1 x hx; omega
   . have:=i2 x hx; omega
theorem Za {U:St} {R:cV->St->Prop} {v:AV} {ks:List AV} {l:List Nd} (hv:ks=[]/\v=.ag\/∃ c,v=.vec ks.length c ks) (hk:eV true ks l) (hl:l.length<=90000)
 (h:∀ ad,cX U ad->R (.ret (.aK [.agg [fg (lQ l).1],.int .i64 (lQ l).2])) ad):ae K 56 [v] U R:=by
 refine Yn ?_;unfold aas;rw[cm];intro b2 gz;have m2:(U.new b2 (.box [.ag])).box b2=some [.ag]:=aD;have e1:=bg gz (x:=.box [.ag]);have f2:=gz.1;generalize U.new b2 (.box [.ag])=aS at *;have pQ:v.dw=true/\av v=[v]:=by
  rcases hv with ⟨_,rfl⟩|⟨c,rfl⟩<;>exact⟨rfl,rfl⟩
 refine pK [.int .u8 1,.str [],.int .i64 0,.int .i64 0,.int .i64 0,.int .i64 0] rfl ?_;refine pK (nr 1 [] 0 0 0 v) (by simp[uB,pQ,ay,nr]) ?_;rw[gd rfl];intro b9 AQ;have m9:(aS.new b9 (.box (av (.agg (nr 1 [] 0 0 0 v))))).box b9=some (nr 1 [] 0 0 0 v):=aD;have e2:=e1.new AQ (x:=.box (av (.agg (nr 1 [] 0 0 0 v))));have m2':=(bg AQ (x:=.box (av (.agg (nr 1 [] 0 0 0 v))))).aY m2;generalize aS.new b9 (.box (av (.agg (nr 1 [] 0 0 0 v))))=bf at *;refine Ic (.inr ⟨b9,rfl,m9⟩) hk (by omega) (λ a l1 h1 h2=>Ib l.length a l1 h1 h2 (by omega)) hv λ bR e3=>?_;have aeX:=e3.aY m2';have E3:=e2.trans e3;simp only[bE];have htv:∃ t,t=node 1 [] 0 0 0 l/\t.length=l.length+1:=⟨_,rfl,rfl⟩;obtain⟨t,ht,tb⟩:=htv;rw[<- ht,<- tb];refine pK [.vec t.length .iE (cg t)] rfl ?_;rw[cm];intro b5 lx;have m5:(bR.new b5 (.box [.ag])).box b5=some [.ag]:=aD;have n25:=lx.bO aeX;have f5:=E3.fresh lx.1;have E4:=E3.new lx (x:=.box [.ag]);have m2n:=(bg lx (x:=.box [.ag])).aY aeX;generalize bR.new b5 (.box [.ag])=cP at *;rw[cI m5];refine⟨⟨rfl,rfl,by simp⟩,?_⟩;have g5:(cP.set b5 (.box (ay [.ag] 0 (av (.agg [.vec t.length .iE (cg t)]))))).box b5=some [.vec t.length .iE (cg t)]:=by rw[aT]; rfl
 have g2:(cP.set b5 (.box (ay [.ag] 0 (av (.agg [.vec t.length .iE (cg t)]))))).box b2=some [.ag]:=by rw[aO n25]; exact m2n
 have E5:=E4.set f5 (x:=.box (ay [.ag] 0 (av (.agg [.vec t.length .iE (cg t)]))));generalize cP.set b5 (.box (ay [.ag] 0 (av (.agg [.vec t.length .iE (cg t)]))))=du at *;simp only[bh,al,db];rw[il g5,eG,bC];simp only[vj,al,eM,bo,aP];have ca:t≠[]:=by rw[ht]; simp[node]
 have fH:∀ x∈t,0<=x.size/\x.size<=100000:=λ x hx=>by
  have x9:eV false [.da (nr 1 [] 0 0 0 v)] t:=by rw[ht]; exact .mk hk hv
  have:=x9.ahB x hx;omega
 have wE:mQ t<=t.length:=by rw[ht]; simp[mQ,node]
 have abl:closed (.vec t.length .iE (cg t))=true:=by
  have:∀ l:List Nd,cD (cg l)=true:=λ l=>by
   induction l with
   | nil=>rfl
   | cons x l ih=>show cD (dA x++cg l)=true; simp[dA,cD,closed,ih]
  exact this t
 have hgp:=Eu (.inr ⟨_,rfl⟩) abl (by omega) ca fH wE;have bad:(900<t.length\/jU t=true)->(ek (some [(0,1)]) (some [AV.ag]) none []).wp K du (λ v21 U=>(aI (some (true,1)) (.box b2 0) v21 U).wp K U (λ _ U=>bD (some (true,1)) (.box b2 0) U λ r0=>aq R (AV.aK [r0,(AV.int .i64 5)]) U) (aa R)) (aa R):=λ hb=>by
  refine pK [.ag] rfl ?_;rw[cI g2];refine⟨⟨rfl,rfl,by simp⟩,?_⟩;rw[pT aT];refine⟨by simp[ay],?_⟩;have hw:lQ l=([],5):=by unfold lQ; rw[<- ht,if_pos hb]
  rw[hw]at h;exact aq.eq (h _ (E5.set f2)) rfl
 have Ge:¬ (900<t.length\/jU t=true)->(ak (some (true,1)) (.box b5 0) du).wp K du (λ eo U=>(aI (some (true,1)) (.box b2 0) eo U).wp K U (λ _ U=>bD (some (true,1)) (.box b2 0) U λ r0=>aq R (AV.aK [r0,(AV.int .i64 0)]) U) (aa R)) (aa R):=λ hb=>by
  rw[ph g5];refine⟨by simp,?_⟩;rw[cI g2];refine⟨⟨rfl,rfl,by simp⟩,?_⟩;rw[pT aT];refine⟨by simp[ay],?_⟩;have hw:lQ l=(t,0):=by unfold lQ; rw[<- ht,if_neg hb]
  rw[hw]at h;refine aq.eq (h _ (E5.set f2)) ?_;simp[ay,fg,ca]
 by_cases h9:900<t.length
 . have h9':(900:Int)<t.length:=by omega
   simp only[h9',dG,show (true==false)=false from rfl,cN,aQ,if_true,al,bH];exact bad (.inl h9)
 . have h9':¬ (900:Int)<t.length:=by omega
   simp only[h9',eS,iY,cB,zA g5,nw,BA,aQ,bZ,if_false,al];refine⟨by simp,_,hgp,?_⟩;cases hg:jU t with
   | true=>simp only[bH]; exact bad (.inr hg)
   | false=>simp only[bq]; exact Ge (by rw[hg]; simp[h9])
end Go.Rip
