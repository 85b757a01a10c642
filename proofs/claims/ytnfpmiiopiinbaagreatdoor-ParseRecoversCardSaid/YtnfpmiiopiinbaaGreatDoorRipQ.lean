/- Lemmas for the proof: no conditions. -/
import Derived.Test.YtnfpmiiopiinbaaGreatDoorRipZz
import Derived.Test.YtnfpmiiopiinbaaGreatDoorRipO
import Derived.Test.YtnfpmiiopiinbaaGreatDoorRipP
import Derived.Test.YtnfpmiiopiinbaaGreatDoorRipI
import Derived.Test.YtnfpmiiopiinbaaGreatDoorRipK
import Derived.Test.YtnfpmiiopiinbaaGreatDoorRipG
import Derived.Test.YtnfpmiiopiinbaaGreatDoorRipC
set_option linter.unusedVariables false
set_option linter.unusedSimpArgs false
set_option linter.loopingSimpArgs false
namespace Go.Rip
open Go.Proofs Go.RowKit
def df (x:Nd):List AV:=[.int .u8 x.kind,.str x.text,.int .i64 x.n,.int .i64 x.m,.int .i64 x.at_,.int .i64 x.size]
def cb (l:List Nd):List AV:=l.flatMap df
theorem GH (l l':List Nd):cb (l++l')=cb l++cb l':=by simp[cb]
theorem nH (L:List Nd):(cb L).length=6*L.length:=by
 induction L with
 | nil=>rfl
 | cons t L ih =>
   have:(cb (t::L)).length=6+(cb L).length:=by simp[cb,df]; omega
   rw[this,ih,lM]; omega
theorem LO (L:List Nd) (i:Nat):(cb L).drop (i*6)=cb (L.drop i):=by
 induction L generalizing i with
 | nil=>simp[cb]
 | cons t L ih =>
   cases i with
   | zero=>simp
   | succ i =>
     rw[Nat.add_mul,show i*6+1*6=6+i*6 by omega,<- List.drop_drop,List.drop_succ_cons,<- ih];rfl
theorem BB {L:List Nd} {i:Nat} {t:Nd} (h:L[i]?=some t):∃ r,(cb L).drop (i*6)=df t++r:=by
 rw[LO,iq (dp.1 h).1];refine⟨cb (L.drop (i+1)),?_⟩;have:=(dp.1 h).2;simp[cb,this]
section
variable {C:ck} {U:St} {K':AV->St->Prop} {Kp:AV->St->Prop} {e sz n b m:Nat} {L l2 z:List AV} {y:AV}
theorem xz {ps:List (Nat×AV)}:(aF (some (e,sz)) (some z) n true ps).wp C U K' Kp=(n*sz<=16777216/\(eS (λ i=>some (i*sz,sz)) ps (bN n z) λ cs=>.cond (cs.length=n*sz) (.mJ n sz e none cs)).wp C U K' Kp):=by
 simp only[aF,if_true]; rfl
theorem BX {pl:Nat->Option (Nat×Nat)} {k:Nat}:(eS pl [] L λ cs=>.cond (cs.length=k) (.mJ n sz e none cs)).wp C U K' Kp=(L.length=k/\∀ b,U.cV b->K' (.ms b 0 n sz e) (U.new b (.box L))):=rfl
theorem Ox {mu:Bool} (hb:U.box b=some L) (hy:qo U y=some (m,l2)) (h:l2.length=m*sz/\n*sz<=L.length/\n+m<=4294967296) (hk:∀ b',(U.del b).cV b'->K' (.ms b' 0 (n+m) sz e) ((U.del b).new b' (.box (L.take (n*sz)++l2)))):(ek (some (e,sz)) mu (.ms b 0 n sz e) y U).wp C U K' Kp:=by
 simp only[ek,hy,hb,wp_cond];exact⟨h.1,⟨trivial,trivial,trivial,h.2.1,h.2.2⟩,hk⟩
end
theorem ae.abr {C:ck} {f:FuncId} {args:List AV} {U:St} {R:cM->St->Prop} (h:ae C f args U λ r τ=>match r with
 | .ret x=>aq R x τ
 | .panic x=>R (.panic x) τ):ae C f args U R:=by
 intro g w vs hs hG ha;refine (h g w vs hs hG ha).mono ?_;rintro e w' hp;cases e with
 | panicked ch=>exact hp
 | outgrown=>exact hp
 | returned v =>
   obtain⟨g',ad,x,h1,h2,h3,y,bI,ht,hR⟩:=hp;obtain⟨g2,k1,k2,k3⟩:=ht g' w' v h2 h3;exact⟨g2,bI,y,h1.trans k1,k2,k3,hR⟩
def B0 (az U:St) (v:AV) (l:List Nd):Prop:=(v=.ag/\l=[])\/∃ b,v=.ms b 0 l.length 6 43/\U.box b=some (cb l)/\az.live b=none/\l≠[]
def Ptr (U:St) (p:AV) (cs:List AV):Prop:=p=.ca cs\/∃ b,p=.box b 0/\U.box b=some cs
def xD (a:AV) (l:List Nd):Prop:=∀ (U:St) (R:cM->St->Prop),(∀ ad,cG U ad->R (.ret (.vec l.length .eR (cb l))) ad)->ae K 110 [a] U R
theorem c7.split {ks:List AV} {l:List Nd} {a:AV} {i:Nat} (h:c7 true (ks.drop i) l) (ha:ks[i]?=some a):∃ l1 l2,l=l1++l2/\c7 false [a] l1/\c7 true (ks.drop (i+1)) l2:=by
 obtain⟨aL,rfl⟩:=dp.1 ha;rw[iq aL]at h;generalize hb:true=b at h;generalize hl:ks[i]::ks.drop (i+1)=la at h;cases h with
 | mk _ _=>cases hb
 | nil=>cases hl
 | cons h1 h2=>cases hl; exact⟨_,_,rfl,h1,h2⟩
theorem c7.Tg {l:List Nd} (h:c7 true [] l):l=[]:=by
 generalize hb:true=b at h;generalize hl:([]:List AV)=la at h;cases h with
 | mk _ _=>cases hb
 | nil=>rfl
 | cons _ _=>cases hl
theorem c7.le:∀ {ks:List AV} {l:List Nd},c7 true ks l->ks.length<=l.length
 | [],_,_=>by simp
 | a::ks,l,h=>by
   obtain⟨l1,l2,rfl,h1,h2⟩:=c7.split (ks:=a::ks) (a:=a) (i:=0) h rfl;obtain⟨x,r,e,_⟩:=h1.size;have:=c7.le (ks:=ks) h2;rw[e]; simp; omega
theorem Au {az U:St} {R:cM->St->Prop} {ks:List AV} {l:List Nd} {b:Nat} {kind:Int} {text:aT} {n m at_:Int} {kv:AV} (hk:c7 true ks l) (hl:l.length<=100000) (Hg:∀ a l1,c7 false [a] l1->l1.length<=l.length->xD a l1)
 (vC:ks=[]/\kv=.ag\/∃ c,kv=.vec ks.length c ks) (hb:U.box b=some [.int .u8 kind,.str text,.int .i64 n,.int .i64 m,.int .i64 at_,.int .i64 0]) (hn:az.live b=none) (hE:cG az U)
 (h:∀ ad b',cG az ad->az.live b'=none->ad.box b'=some (cb (node kind text n m at_ l))->R (.ret (.ms b' 0 (l.length+1) 6 43)) ad) :
 (bR (some false) kv).wp K U (λ cR U =>
 dT 4 [.ms b 0 1 6 43,kv,cR,(AV.int .i64 0)] U λ lp v3 vb AS cO U =>
  (aw .lss (BT.mk false false false none false) false cO AS).wp K U (λ dL U =>
  aA dL (
   (aJ (some (87,1)) none vb cO).wp K U (λ cC U =>
   (ar (some (false,1)) cC U).wp K U (λ dt U =>
   ae K 110 [dt] U (aj (λ dy U =>
   (ek (some (43,6)) true v3 dy U).wp K U (λ ee U =>
   (aw .add (BT.mk false false false none false) true cO (AV.int .i64 1)).wp K U (λ v24 U =>
   lp ee vb AS v24 U) (aa R)) (aa R)) (aa R))) (aa R)) (aa R)) (
   (bR (some false) v3).wp K U (λ dM U =>
   (aJ (some (43,6)) none v3 (AV.int .i64 0)).wp K U (λ v28 U =>
   (ah (some 5) v28).wp K U (λ et U =>
   (aG (some (false,1)) et dM U).wp K U (λ _ U =>
   aq R v3 U) (aa R)) (aa R)) (aa R)) (aa R))) (aa R)) (aa R):=by
 have hlen:bR (some false) kv=.val (.int .i64 ks.length):=by
  rcases vC with ⟨rfl,rfl⟩|⟨c,rfl⟩<;>rfl
 rw[hlen,ak];refine⟨λ mm v3 db cR cO ad=>∃ (i b':Nat) (acc rest:List Nd),mm=ks.length-i/\i<=ks.length/\v3=.ms b' 0 (acc.length+1) 6 43/\db=kv/\cR=.int .i64 ks.length/\cO=.int .i64 (i:Nat)/\l=acc++rest/\c7 true (ks.drop i) rest/\ad.box b'=some ([.int .u8 kind,.str text,.int .i64 n,.int .i64 m,.int .i64 at_,.int .i64 0]++cb acc)/\az.live b'=none/\cG az ad,
  ⟨_,0,b,[],l,rfl,by omega,rfl,rfl,rfl,rfl,rfl,hk,by simpa [cb] using hb,hn,hE⟩,?_⟩
 rintro mm v3 db cR cO bF ⟨i,b',acc,rest,rfl,hi,rfl,rfl,rfl,rfl,sa,K5,dR,Ez,Vn⟩;have kM:ks.length<=l.length:=hk.le;simp only[bX,ak,bJ];refine⟨λ aL=>?_,λ jW=>?_⟩
 . have aL:i<ks.length:=by omega
   rcases vC with ⟨rfl,_⟩|⟨c,rfl⟩
   . simp at aL
   rw[QT];refine⟨by omega,?_⟩;have hd:ks.drop ((i:Int).toNat*1)=ks[i]::ks.drop (i+1):=by rw[iJ,Nat.mul_one]; exact iq aL
   rw[hd,rQ,bl];obtain⟨l1,l2,Ad,h1,h2⟩:=K5.split (a:=ks[i]) (by simp[aL]);have YS:l1.length<=l.length:=by rw[sa,Ad]; simp; omega
   refine Hg _ l1 h1 YS bF _ λ bI e2=>?_;simp only[bA];have Ps:acc.length+l1.length<=l.length:=by rw[sa,Ad]; simp
   refine Ox (sz:=6) (m:=l1.length) (l2:=cb l1) (e2.bf dR) rfl ⟨by rw[nH]; omega,by simp[nH]; omega,by omega⟩ λ b2 hf=>?_;rw[dm];refine⟨bD (by omega) (by omega),ks.length-(i+1),by omega,i+1,b2,acc++l1,l2,rfl,aL,?_,rfl,rfl,by simp,by rw[sa,Ad]; simp,h2,?_,?_,?_⟩
   . simp; omega
   . rw[aI,GH];have:(acc.length+1)*6=([AV.int .u8 kind,.str text,.int .i64 n,.int .i64 m,.int .i64 at_,.int .i64 0]++cb acc).length:=by simp[nH]; omega
     rw[this,xg,nu]
   . have qX:((bI.del b').live b2)=none:=hf.1
     by_cases Hk:b2=b'
     . rw[Hk]; exact Ez
     . rw[mf,if_neg Hk]at qX;exact (Vn.trans e2).fresh qX
   . exact ((Vn.trans e2).del Ez).new hf
 . have hi:i=ks.length:=by omega
   subst hi;rw[List.drop_length]at K5;have:=K5.Tg;subst this;rw[jn]at sa;subst sa;simp only[Am,ak];rw[DH];refine⟨⟨by omega,by omega,rfl⟩,?_⟩;simp only[aN,ak,cq,show (0:Int).toNat*6=0 from rfl];rw[cL dR];refine⟨⟨rfl,rfl,by simp⟩,?_⟩;have e:ax ([.int .u8 kind,.str text,.int .i64 n,.int .i64 m,.int .i64 at_,.int .i64 0]++cb l) 5 (au (.int .i64 ((l.length+1:Nat):Int)))=cb (node kind text n m at_ l):=by
    simp[ax,node,cb,df]
   rw[e];exact aq.mk (h _ b' (Vn.set Ez) Ez aX)
theorem Av {U:St} {R:cM->St->Prop} {p:AV} {ks:List AV} {l:List Nd} {kind:Int} {text:aT} {n m at_:Int} {kv:AV} (hp:Ptr U p (gz kind text n m at_ kv)) (hk:c7 true ks l) (hl:l.length<=100000) (Hg:∀ a l1,c7 false [a] l1->l1.length<=l.length->xD a l1)
 (vC:ks=[]/\kv=.ag\/∃ c,kv=.vec ks.length c ks) (h:∀ ad b',cG U ad->U.live b'=none->ad.box b'=some (cb (node kind text n m at_ l))->R (.ret (.ms b' 0 (l.length+1) 6 43)) ad):ae K 110 [p] U R:=by
 refine MG ?_;unfold MF;rcases hp with rfl|⟨b,rfl,hb⟩
 . simp only[vI,ak,di,dN];rw[tZ];refine⟨by simp[gz],?_⟩;rw[xz];refine⟨by omega,?_⟩;rw[dQ (o:=0) (s:=6) rfl];refine⟨⟨rfl,by simp[gz],by simp[bN]⟩,?_⟩;rw[BX];refine⟨rfl,λ b hf=>?_⟩;simp only[gz,List.drop,rQ,bl];exact Au hk hl Hg vC (aI) hf.1 ((cG.refl U).new hf) h
 . simp only[bS,ak,aN,cq];rw[mR hb];refine⟨by simp[gz],?_⟩;rw[xz];refine⟨by omega,?_⟩;rw[dQ (o:=0) (s:=6) rfl];refine⟨⟨rfl,by simp[gz],by simp[bN]⟩,?_⟩;rw[BX];refine⟨rfl,λ b2 hf=>?_⟩;rw[eO ((bC hf).bf hb)];simp only[gz,List.drop,bl];exact Au hk hl Hg vC (aI) hf.1 ((cG.refl U).new hf) h
theorem CL {U:St} {R:cM->St->Prop} {p:AV} {ks:List AV} {l:List Nd} {kind:Int} {text:aT} {n m at_:Int} {kv:AV} (hp:Ptr U p (gz kind text n m at_ kv)) (hk:c7 true ks l) (hl:l.length<=100000) (Hg:∀ a l1,c7 false [a] l1->l1.length<=l.length->xD a l1)
 (vC:ks=[]/\kv=.ag\/∃ c,kv=.vec ks.length c ks) (h:∀ ad,cG U ad->R (.ret (.vec (l.length+1) .eR (cb (node kind text n m at_ l)))) ad):ae K 110 [p] U R :=
 ae.abr (Av hp hk hl Hg vC λ ad b' e f m=>⟨_,_,lH.O8 m,h _ (e.del f)⟩)
theorem wP:∀ (N:Nat) (a:AV) (l:List Nd),c7 false [a] l->l.length<=N->N<=100000->xD a l
 | 0,a,l,h,hl,_=>by
   obtain⟨x,r,e,_⟩:=h.size;rw[e]at hl; simp at hl
 | N+1,a,l,h,hl,hN=>by
   generalize hb:false=b at h;generalize ha:[a]=la at h;cases h with
   | nil=>cases ha
   | cons _ _=>cases hb
   | mk h1 h2 =>
     cases ha;rw[bH]at hl;intro U R hR;exact CL (.inl rfl) h1 (by omega) (λ a l1 hk Ht=>wP N a l1 hk (by omega) (by omega)) h2 hR
end Go.Rip
namespace Go.Rip
open Go.Proofs Go.RowKit
theorem gx.Zn {v:AV} {l:List Nd} (h:gx v l.length (cb l)) {i:Nat} {x:Nd} (hx:l[i]?=some x) {e:Nat}:∃ r,aJ (some (e,6)) none v (.int .i64 (i:Int))=.cond (0<=(i:Int)/\(i:Int)<l.length) (.val (.ca (df x++r))):=by
 obtain⟨c,rfl,oe⟩:=h.at (sz:=6) (e:=e) (dp.1 hx).1;obtain⟨r,hr⟩:=BB hx;exact⟨r,by rw[oe,hr]⟩
section
variable {C:ck} {U:St} {K':AV->St->Prop} {Kp:AV->St->Prop} {k:AV->Prop} {v:AV} {l:List Nd} {i e:Nat} {x:Nd}
theorem Kb (h:gx v l.length (cb l)) (hx:l[i]?=some x) (hk:∀ r,K' (.ca (df x++r)) U):(aJ (some (e,6)) none v (.int .i64 (i:Int))).wp C U K' Kp:=by
 obtain⟨r,hr⟩:=h.Zn hx (e:=e);rw[hr];have:=(dp.1 hx).1;exact⟨by omega,hk r⟩
theorem BJ (h:gx v l.length (cb l)) (hx:l[i]?=some x) (hk:∀ r,k (.ca (df x++r))):ao C (aJ (some (e,6)) none v (.int .i64 (i:Int))) k:=by
 obtain⟨r,hr⟩:=h.Zn hx (e:=e);rw[hr];have:=(dp.1 hx).1;exact⟨by omega,hk r⟩
end
theorem gx.cA {v:AV} {n:Nat} {cs:List AV} (h:gx v n cs):v.cA=true/\au v=[v]:=by
 rcases h with ⟨rfl,rfl,rfl⟩|⟨c,rfl⟩<;>exact⟨rfl,rfl⟩
theorem za {U:St} {R:cM->St->Prop} {v:AV} {l:List Nd} {n:Nat} {x:Nd} (hv:gx v l.length (cb l)) (hx:l[n]?=some x) (h64:tf ((n:Int)+x.size))
 (h:∀ bn be bt ad,bn≠be->bn≠bt->be≠bt->U.live bn=none->U.live be=none->U.live bt=none->ad.box bn=some [.int .i64 (n:Nat)]->ad.box be=some [.int .i64 ((n:Int)+x.size)]->ad.box bt=some [v]->cG U ad->R (.ret (.func (.func 155) [] [.box bn 0,.box be 0,.box bt 0])) ad):ae K 81 [.agg [v],.int .i64 (n:Nat)] U R:=by
 refine Qk ?_;unfold Sf;rw[fY rfl];intro bt ZF;rw[fY rfl];intro bn KS;have mt:(U.new bt (.box (au (.agg [v])))).box bt=some [v]:=aI;have e1:=bC ZF (x:=.box (au (.agg [v])));have fr1:U.live bt=none:=ZF.1;generalize U.new bt (.box (au (.agg [v])))=bF at *;have e2:=bC KS (x:=.box (au (.int .i64 (n:Nat))));have mn:(bF.new bn (.box (au (.int .i64 (n:Nat))))).box bn=some [.int .i64 (n:Nat)]:=aI;have ntn:=KS.bP mt;have fr2:U.live bn=none:=e1.fresh KS.1;generalize bF.new bn (.box (au (.int .i64 (n:Nat))))=bI at *;have WD:=e2.bf mt;simp only[nk mn,dN,fi,aN,aD,cq,nk WD];refine BJ hv hx λ r=>?_;simp only[di,aD,df,gY,List.drop,oO,fi,xV];refine⟨h64,?_⟩;rw[cK];intro be tq;have e3:=bC tq (x:=.box [.int .i64 0]);have me:(bI.new be (.box [.int .i64 0])).box be=some [.int .i64 0]:=aI;have WK:=tq.bP mn;have WO:=tq.bP WD;have Zr:U.live be=none:=(e1.trans e2).fresh tq.1;refine⟨?_,?_⟩
 . intro b hb;simp only[dH,iK,jn,fe,fN,List.not_mem_nil,or_false]at hb;have:b=bn\/b=bt:=by
    rcases hb with h|h|h<;>simp_all
   rw[nS];rcases this with rfl|rfl
   . rw[if_neg WK]
   . rw[if_neg WO]
 . rw[cL me];refine⟨⟨rfl,rfl,by simp⟩,aq.mk (h bn be bt _ WK ntn.symm WO.symm fr2 Zr fr1 ?_ ?_ ?_ ((e1.trans (e2.trans e3)).set Zr))⟩
   . rw[aM WK]; exact e3.bf mn
   . rw[aX]; rfl
   . rw[aM WO]; exact e3.bf WD
theorem y8 (l:List Nd) (en:Int):∀ (f p:Nat),(eZ l en f p).length<=f
 | 0,_=>by simp[eZ]
 | f+1,p=>by
   simp only[eZ];split
   . split
     . have:=y8 l en f (p+(Nd.size ‹_›).toNat);simp; omega
     . simp
   . simp
theorem uZ {v:AV} {l:List Nd} {n:Nat} {en:Int} {bn be bt:Nat} {U:St} {B:AV->Qr->St->Prop} {Kn:St->Prop} {Ke:Nat->St->Prop} {Kr:St->Prop} {Kp:AV->St->Prop} (I:List Nat->St->Prop) (J:St->Prop)
 (hv:gx v l.length (cb l)) (hn:n<l.length) (hlen:l.length<=100000) (Q9:en<=l.length)
 (Pg:∀ ks U,I ks U->U.box bn=some [.int .i64 (n:Nat)]/\U.box be=some [.int .i64 en]/\U.box bt=some [v])
 (Rj:∀ ks U o L L',I ks U->U.loop o=some L->I ks (U.set o (.loop L')))
 (nQ:∀ ks U o L,I ks U->U.cV o->I ks (U.new o (.loop L)))
 (hJ:∀ U o L L',J U->U.loop o=some L->J (U.set o (.loop L')))
 (body:∀ (ks:List Nat) (kN:Nat) (x:Nd) (bF:St) (o:Nat) (L1:eY) (q:Qr),I ks bF->l[kN]?=some x->(kN:Int)<en->0<x.size->n<kN->ks.length<l.length->(∃ r,eZ l en l.length (n+1)=ks++kN::r)->bF.loop o=some L1 ->
   (∀ bI,I (ks++[kN]) bI->x.size<=100000->bI.loop o=some L1->q.n bI)->(∀ bI,J bI->bI.loop o=some L1->q.r bI)->B (.int .i64 (kN:Nat)) q bF)
 (fin:∀ ks bF o L,ks=eZ l en l.length (n+1)->I ks bF->bF.loop o=some L->Kn (bF.del o))
 (aat:∀ bF o L,J bF->bF.loop o=some L->Kr (bF.del o))
 (h0:I [] U):rH K 1 (.func (.func 155) [] [.box bn 0,.box be 0,.box bt 0]) U (λ v q U=>q.mid (λ U=>B v q U) U) Kn Ke Kr Kp:=by
 refine⟨by kernel_rfl,λ o L ho KP Vr Y=>?_⟩;have I1:=nQ _ _ o L h0 ho;have L8:=yG (U:=U) (b:=o) (L:=L);generalize U.new o (.loop L)=bF at *;refine M9 ?_;unfold M8;rw[eO (Pg _ _ I1).1,dN,bl,dm];refine⟨bD (by omega) (by omega),?_⟩;refine⟨λ m v0 v2 v3 v5 ad=>∃ ks f p,m=l.length-p/\v0=.qf o/\v2=.box be 0/\v3=.box bt 0/\v5=.int .i64 (p:Nat)/\n<p/\p<=300000/\l.length-p<=f/\ks++eZ l en f p=eZ l en l.length (n+1)/\I ks ad/\∃ L1,ad.loop o=some L1/\L1.st .ready none=L/\L1.state=.ready/\L1.eF=none,
  ⟨_,[],l.length,n+1,rfl,rfl,rfl,rfl,by simp,by omega,by omega,by omega,rfl,I1,L,L8,by cases L; simp_all [eY.st],KP,Vr⟩,?_⟩
 clear I1 L8;rintro m v0 v2 v3 v5 bI ⟨ks,f,p,rfl,rfl,rfl,rfl,rfl,hnp,hp3,hf,kM,I2,L1,pT,fz,EF,Ck⟩;obtain⟨k1,k2,k3⟩:=Pg _ _ I2;rw[eO k2,dN,bl];simp only[bX,ak,bj,aP];have stop:eZ l en f p=[]->aq (Mj o Kn Ke Kr Kp) (.aQ []) bI:=λ h=>by
  rw[h,jn]at kM;refine aq.mk ⟨L1,pT,by rw[EF]; simp,?_⟩;rw[Ck];exact fin ks bI o L1 kM I2 pT
 by_cases aL:(p:Int)<en
 . have pV:p<l.length:=by omega
   obtain⟨x,hx⟩:∃ x,l[p]?=some x:=⟨l[p],by simp[pV]⟩;cases f with
   | zero=>omega
   | succ f =>
   have Hr:eZ l en (f+1) p=if 0<x.size then p::eZ l en f (p+x.size.toNat) else []:=by
    simp only[eZ,hx,aL,true_and]
   simp only[aL,dq,ib,cn,aD,aN,cq,nk k3,dN,fi,jq];refine BJ hv hx λ r=>?_;simp only[di,aD,jq,df,gY,List.drop,oO,fi,eX,aO,if_true,ak,bJ];refine⟨λ hs=>?_,λ hs=>?_⟩
   . rw[if_pos hs]at Hr;simp only[gi,zF];refine Y _ _ _ L1 rfl pT fz ?_;refine⟨L1,pT,EF,?_⟩;have I3:=Rj _ _ o L1 { L1 with state:=.busy } I2 pT
     have Es:ks.length<l.length:=by
      have:=y8 l en l.length (n+1);rw[<- kM,Hr]at this;simp at this; omega
     refine body ks p x _ o { L1 with state:=.busy } _ I3 hx aL hs hnp Es ⟨_,by rw[<- kM,Hr]⟩ ga (λ cj I4 yB yr=>?_) λ cj hJ3 yr=>?_
     . refine⟨_,yr,?_⟩;have I5:=Rj _ _ o _ { L1 with state:=.ready,eF:=none } I4 yr
       obtain⟨j1,j2,j3⟩:=Pg _ _ I5;simp only[bA,dr,ak,cT,aW,aN,cq];rw[eO j3,dN,bl];refine Kb hv hx λ r=>?_;simp only[di,ak,df,gY,List.drop,rQ,bl,dm];refine⟨bD (by omega) (by omega),_,?_,ks++[p],f,p+x.size.toNat,rfl,rfl,rfl,rfl,?_,by omega,by omega,by omega,?_,I5,_,ga,by rw[<- fz]; rfl,rfl,rfl⟩
       . omega
       . congr 1; omega
       . rw[<- kM,Hr]; simp
     . refine⟨_,yr,?_⟩;simp only[bA,dr,ak,dZ,a8];refine aq.mk ⟨_,ga,by simp,?_⟩;exact aat _ o _ (hJ _ o _ _ hJ3 yr) ga
   . rw[if_neg hs]at Hr;exact stop Hr
 . simp only[aL,dz,show (false==true)=false from rfl,cz,aO,bQ,if_false,ak,aW];refine stop ?_;cases f with
   | zero=>rfl
   | succ f =>
     simp only[eZ];split
     . rw[if_neg (λ h=>aL h.1)]
     . rfl
end Go.Rip
namespace Go.Rip
open Go.Proofs Go.RowKit
def nw (az U:St) (v:AV) (es:List Int):Prop:=(es=[]/\v=.ag)\/∃ b jg,v=.ms b 0 es.length 1 3/\U.box b=some (es.map (.int .i64)++jg)/\az.live b=none
section
variable {az U:St} {R:cM->St->Prop} {K':AV->St->Prop} {Kp:AV->St->Prop}
theorem RI {b:Nat} {n a:Int} (hb:U.box b=some [.int .i64 n]) (h:R (.ret (.bool (decide (a<=n)))) U):ae K 133 [.int .i64 a,.box b 0] U R:=by
 refine MQ ?_;unfold MP;rw[eO hb,dN,bl];simp only[lB,ak];exact aq.mk h
theorem Zh {b:Nat} {L:List AV} {es:List Int} {jg:List AV} (h:U.box b=some L) (hL:L=es.map (.int .i64)++jg) {i n:Nat} (hi:i<es.length) (hn:i<n) (hk:K' (.int .i64 es[i]) U) :
 (aJ (some (3,1)) none (.ms b 0 n 1 3) (.int .i64 (i:Nat))).wp K U (λ v U=>(ar (some (false,1)) v U).wp K U K' Kp) Kp:=by
 rw[DH];refine⟨⟨by omega,by omega,rfl⟩,?_⟩;rw[eO h];have:L.drop (0+(i:Int).toNat*1)=.int .i64 es[i]::((es.map (AV.int .i64)).drop (i+1)++jg):=by
  rw[hL,iJ,Nat.mul_one,cq,List.drop_append_of_le_length (by simp; omega),iq (by simpa using hi)];simp
 rw[this,bl];exact hk
theorem Cr {b bn:Nat} {es:List Int} {jg:List AV} {n:Int} (hb:U.box b=some (es.map (.int .i64)++jg)) (hn:U.box bn=some [.int .i64 n]) (hl:es.length<=100000)
 (h:(∃ k,k<es.length/\(es.take k).all (λ a=>decide (n<a))=true/\(∃ hk:k<es.length,es[k]<=n)/\R (.ret (.int .i64 (k:Nat))) U)\/(es.all (λ a=>decide (n<a))=true/\R (.ret (.int .i64 (-1))) U)) :
 ae K 210 [.ms b 0 es.length 1 3,.func (.func 133) [] [.box bn 0]] U R:=by
 refine CV ?_;unfold FJ;simp only[Am,ak];refine⟨λ m v0 v1 v7 v8 ad=>∃ i:Nat,m=es.length-i/\i<=es.length/\v0=.ms b 0 es.length 1 3/\v1=.func (.func 133) [] [.box bn 0]/\v7=.int .i64 es.length/\v8=.int .i64 i/\ad=U/\(es.take i).all (λ a=>decide (n<a))=true,⟨_,0,rfl,by omega,rfl,rfl,rfl,rfl,rfl,by simp⟩,?_⟩;rintro m v0 v1 v7 v8 ad ⟨i,rfl,hi,rfl,rfl,rfl,rfl,rfl,b0⟩;simp only[bX,ak,bJ];have Hj:∀ (k:Nat) (hk:k<es.length),(es.take i).all (λ a=>decide (n<a))=true->k<i->n<es[k]:=λ k hk ha Hs=>by
  rw[eH]at ha;have:es[k]∈es.take i:=by
   rw[List.mem_iff_getElem];exact⟨k,by simp; omega,by simp⟩
  simpa using ha _ this
 refine⟨λ aL=>?_,λ jW=>?_⟩
 . have aL:i<es.length:=by omega
   refine Zh hb rfl aL aL ?_;simp only[gi,show dG K.P 133=true by kernel_rfl,if_true,jr,iK,gY];refine RI hn ?_;simp only[bA,bJ];refine⟨λ hle=>?_,λ yy=>?_⟩
   . rcases h with ⟨k,hk,qZ,⟨_,fy⟩,hR⟩|⟨hA,_⟩
     . have:k=i:=by
        rcases Nat.lt_trichotomy k i with h|h|h
        . have:=Hj k hk b0 h; omega
        . exact h
        . rw[eH]at qZ;have hm:es[i]∈es.take k:=by
           rw[List.mem_iff_getElem];exact⟨i,by simp; omega,by simp⟩
          have:=qZ _ hm;simp at this; omega
       subst this;exact aq.mk hR
     . rw[eH]at hA;have:=hA es[i] (List.getElem_mem aL);simp at this; omega
   . rw[dm];refine⟨bD (by omega) (by omega),es.length-(i+1),by omega,i+1,rfl,by omega,rfl,rfl,rfl,by simp,rfl,?_⟩;rw[zm,nq aL,List.all_append,b0];simp; omega
 . have hi:i=es.length:=by omega
   subst hi;rw[xg]at b0;rcases h with ⟨k,hk,qZ,⟨_,fy⟩,hR⟩|⟨_,hR⟩
   . rw[eH]at b0;have:=b0 es[k] (List.getElem_mem hk);simp at this; omega
   . exact aq.mk hR
theorem Cc:∀ (es:List Int) (n:Int),(∃ k,∃ hk:k<es.length,(es.take k).all (λ a=>decide (n<a))=true/\es[k]<=n)\/es.all (λ a=>decide (n<a))=true
 | [],n=>.inr rfl
 | a::es,n=>by
   by_cases ha:n<a
   . rcases Cc es n with ⟨k,hk,h1,h2⟩|h
     . exact .inl ⟨k+1,by simp; omega,by simp[ha,h1],by simpa using h2⟩
     . exact .inr (by simp[ha,h])
   . exact .inl ⟨0,by simp,by simp,by simp; omega⟩
theorem KD {v:AV} {bn:Nat} {es:List Int} {n:Int} (hv:nw az U v es) (hn:U.box bn=some [.int .i64 n]) (hl:es.length<=100000) (hE:cG az U) (KS:∀ b,az.live b=none->v=.ms b 0 es.length 1 3->bn≠b)
 (h:∀ ad v',nw az ad v' (es.filter (n<·))->cG az ad->(∀ b x,(∀ k,v≠.ms b 0 k 1 3)->U.box b=some x->ad.box b=some x)->(∀ b k,v'=.ms b 0 k 1 3->v=.ms b 0 es.length 1 3)->R (.ret v') ad):ae K 132 [v,.func (.func 133) [] [.box bn 0]] U R:=by
 refine MO ?_;unfold MN;rcases hv with ⟨rfl,rfl⟩|⟨b,jg,rfl,hb,hb0⟩
 ·
  have aay:ae K 210 [.ag,.func (.func 133) [] [.box bn 0]] U (aj (λ v10 U =>
   (aw .eql (BT.mk false false false none false) true v10 (AV.int .i64 (-1))).wp K U (λ v12 U=>aA v12 (aq R .ag U) False) (aa R)) (aa R)):=by
   refine CV ?_;unfold FJ;simp only[len_nil,ak];refine⟨λ m v0 v1 v7 v8 ad=>v7=.int .i64 0/\v8=.int .i64 0/\ad=U,⟨0,rfl,rfl,rfl⟩,?_⟩;rintro m v0 v1 v7 v8 ad ⟨rfl,rfl,rfl⟩;simp only[bX,ak,show decide ((0:Int)<0)=false from rfl,aW];refine aq.mk ?_;simp only[bA,bw,ak,dq,a8];exact aq.mk (h ad .ag (.inl ⟨rfl,rfl⟩) hE (λ _ _ _ h=>h) (λ _ _ e=>by cases e))
  refine aay.mono λ r ad hr=>?_;cases r with
  | panic x=>exact hr
  | ret x =>
    simp only[bA]at hr ⊢;refine ay.wp_mono (λ v U hv=>?_) _ hr;cases v<;>simp only[aA]at hv ⊢
    exact⟨hv.1,λ e=>(hv.2 e).elim⟩
 . have Hk:bn≠b:=KS b hb0 rfl;rcases Cc es n with ⟨k,hk,qZ,fy⟩|b0
   . refine Cr hb hn hl (.inl ⟨k,hk,qZ,⟨hk,fy⟩,?_⟩);have hkn:¬ ((k:Nat):Int)=-1:=by omega
     simp only[bA,bw,ak,hkn,dz,aW,dm];refine⟨bD (by omega) (by omega),?_⟩;have Rc:(es.take (k+1)).filter (n<·)=es.take k:=by
      rw[zm,nq hk,List.filter_append];have h1:(es.take k).filter (n<·)=es.take k:=by
       rw[List.filter_eq_self];intro a ha;rw[eH]at qZ;exact qZ a ha
      rw[h1];have:¬ n<es[k]:=by omega
      simp[this]
     refine⟨λ m v0 v1 v5 v6 ad=>∃ (i j:Nat) (arr:List AV),m=es.length-j/\v0=.ms b 0 es.length 1 3/\v1=.func (.func 133) [] [.box bn 0]/\v5=.int .i64 (i:Nat)/\v6=.int .i64 (j:Nat)/\j<=es.length/\i<j/\ad.box b=some arr/\arr.take i=((es.take j).filter (n<·)).map (.int .i64)/\i=((es.take j).filter (n<·)).length/\arr.drop j=(es.drop j).map (.int .i64)++jg/\arr.length=es.length+jg.length/\(∀ c,c≠b->ad.live c=U.live c),
      ⟨_,k,k+1,es.map (.int .i64)++jg,rfl,rfl,rfl,rfl,by simp,by omega,by omega,hb,?_,?_,?_,by simp,λ _ _=>rfl⟩,?_⟩
     . rw[Rc,List.take_append_of_le_length (by simp; omega),<- List.map_take]
     . rw[Rc]; simp; omega
     . rw[List.drop_append_of_le_length (by simp; omega),<- List.map_drop]
     . rintro m v0 v1 v5 v6 ad ⟨i,j,arr,rfl,rfl,rfl,rfl,rfl,hj,dV,dR,Q7,Vt,ZE,ha4,re⟩;simp only[Am,ak,bX,bJ];refine⟨λ aL=>?_,λ jW=>?_⟩
       . have aL:j<es.length:=by omega
         intro jj yz;have Ez:ad.box bn=some [.int .i64 n]:=by rw[dx (re bn Hk)]; exact hn
         rw[DH];refine⟨⟨by omega,by omega,rfl⟩,?_⟩;rw[eO dR];obtain⟨rr,hd⟩:∃ rr,arr.drop (0+(j:Int).toNat*1)=.int .i64 es[j]::rr:=by
          rw[iJ,Nat.mul_one,cq,ZE,iq aL,dY];exact⟨_,rfl⟩
         rw[hd,bl];simp only[gi,show dG K.P 133=true by kernel_rfl,if_true,jr,iK,gY];refine RI Ez ?_;have og:es.take (j+1)=es.take j++[es[j]]:=by rw[zm,nq aL]; rfl
         have yx:arr.drop (j+1)=(es.drop (j+1)).map (.int .i64)++jg:=by
          rw[<- List.drop_drop,ZE,iq aL,dY]; rfl
         simp only[bA,dr,ak]
         by_cases hle:es[j]<=n
         . simp only[hle,dq,cT,aW];refine yz _ _ _ _ _ ?_;simp only[dm];refine⟨bD (by omega) (by omega),es.length-(j+1),by omega,i,j+1,arr,rfl,rfl,rfl,rfl,by simp,by omega,by omega,dR,?_,?_,yx,ha4,re⟩
           . rw[og,List.filter_append,Q7];have:¬ n<es[j]:=by omega
             simp[this]
           . rw[og,List.filter_append];have:¬ n<es[j]:=by omega
             simp only[List.filter_cons,this,dz,bQ,if_false,List.filter_nil,jn];exact Vt
         . simp only[hle,dz,dZ,a8];rw[DH];refine⟨⟨by omega,by omega,rfl⟩,?_⟩;rw[cL dR];refine⟨⟨rfl,rfl,by simp; omega⟩,?_⟩;rw[dm];refine⟨bD (by omega) (by omega),?_⟩;refine yz _ _ _ _ _ ?_;simp only[dm];have HC:ax arr (0+(i:Int).toNat*1) (au (.int .i64 es[j]))=arr.take i++[.int .i64 es[j]]++arr.drop (i+1):=by
            simp[ax]
           have Ev:(arr.take i).length=i:=by simp; omega
           refine⟨bD (by omega) (by omega),es.length-(j+1),by omega,i+1,j+1,_,rfl,rfl,rfl,by simp,by simp,by omega,by omega,aX,?_,?_,?_,?_,λ c hc=>by rw[eE,if_neg hc]; exact re c hc⟩
           . rw[HC,List.take_append_of_le_length (by simp; omega),zl (by simp; omega),Q7,og,List.filter_append];have:n<es[j]:=by omega
             simp[this]
           . rw[og,List.filter_append];have:n<es[j]:=by omega
             simp only[List.filter_cons,this,dq,if_true,List.filter_nil,eG,lM,sU];omega
           . rw[HC,<- yx];rw[List.drop_append,List.drop_eq_nil_of_le (by simp; omega),iK,List.drop_drop];congr 1;simp;omega
           . rw[HC]; simp; omega
       . have hje:j=es.length:=by omega
         subst hje;rw[xg]at Q7 Vt;simp only[gp,dh,wp_cond,ak];refine⟨⟨by omega,by omega,by omega,by omega,trivial⟩,?_⟩;simp only[zM,dR,wp_cond,jL];refine⟨⟨trivial,by simp; omega⟩,⟨by omega,by omega,by omega,by simp,trivial⟩,?_⟩;refine aq.mk (h _ _ (.inr ⟨b,(ax arr (0+(i:Int).toNat*1) (bN ((es.length:Int).toNat-(i:Int).toNat) [.int .i64 0])).drop i,?_,?_,hb0⟩) ?_ ?_ ?_)
         . simp[Vt]
         . rw[aX];congr 1;have hz:(bN (es.length-i) [AV.int .i64 0]).length=es.length-i:=by simp[jC]
           simp only[iJ,Nat.mul_one,cq]
           conv=>lhs; rw[<- List.take_append_drop i (ax arr i _)]
           congr 1;simp only[ax,nu];rw[List.take_append_of_le_length (by simp; omega),zl (by simp; omega)];exact Q7
         . refine cG.set (λ c x e=>?_) hb0
           by_cases hc:c=b
           . subst hc; rw[hb0]at e; cases e
           . rw[re c hc]; exact hE c x e
         . intro c x hc hx;have ZG:c≠b:=λ e=>hc es.length (by rw[e]);rw[aM ZG,dx (re c ZG)]; exact hx
         . intro c k e;simp only[AV.ms.injEq]at e;rw[e.1]
   . refine Cr hb hn hl (.inr ⟨b0,?_⟩);simp only[bA,bw,ak,dq,a8];have hf:es.filter (n<·)=es:=by
      rw[List.filter_eq_self];intro a ha;rw[eH]at b0;exact b0 a ha
     exact aq.mk (h U _ (by rw[hf]; exact .inr ⟨b,jg,rfl,hb,hb0⟩) hE (λ _ _ _ h=>h) (λ b' k e=>by cases e; rfl))
end
end Go.Rip
namespace Go.Rip
open Go.Proofs Go.RowKit
section
variable {az U:St} {R:cM->St->Prop} {K':AV->St->Prop} {Kp:AV->St->Prop} {v:AV} {es:List Int}
theorem OX (h:nw az U v es):bR (some false) v=.val (.int .i64 es.length):=by
 rcases h with ⟨rfl,rfl⟩|⟨b,jg,rfl,_,_⟩<;>rfl
theorem OW {bx:Nat} {a:Int} (hv:nw az U v es) (hy:U.box bx=some [.int .i64 a]) (E:cG az U) (hl:es.length<=100000) (h:∀ ad v',nw az ad v' (es++[a])->cG az ad->K' v' ad) :
 (ek (some (3,1)) true v (.ms bx 0 1 1 3) U).wp K U K' Kp:=by
 have Je:qo U (.ms bx 0 1 1 3)=some (1,[.int .i64 a]):=by simp[qo,hy]
 rcases hv with ⟨rfl,rfl⟩|⟨b,jg,rfl,hb,hb0⟩
 . simp only[ek,Je,wp_cond];refine⟨rfl,by omega,λ b hf=>?_⟩;exact h _ _ (.inr ⟨b,[],rfl,by rw[show U.qh none=U from rfl]; exact aI,E.fresh hf.1⟩) (E.new hf)
 . refine Ox hb Je ⟨rfl,by simp,by omega⟩ λ b' hf=>?_;refine h _ _ (.inr ⟨b',[],by simp,?_,?_⟩) ((E.del hb0).new hf)
   . rw[aI]; simp
   . have hd:=hf.1
     by_cases e:b'=b
     . rw[e]; exact hb0
     . rw[mf,if_neg e]at hd; exact E.fresh hd
end
theorem uu {v:AV} {l:List Nd} (hv:gx v l.length (cb l)) (hc:closed v=true) (hl:l.length<=100000) (h0:l≠[]) (hs:∀ x∈l,0<=x.size/\x.size<=100000) (rj:ju l<=l.length):Pure K 69 [.agg [v]] (.bool (ko l)):=by
 refine Pure.of (by simp[bG,closed,hc]) rfl (λ U=>rfl) λ R hR=>?_;refine Qc ?_;unfold R7;rw[fY rfl];intro b1 hb1;have m1:((bK ⟨.e,0⟩).new b1 (.box (au (.agg [v])))).box b1=some [v]:=aI;generalize (bK _).new b1 _=az at *;clear hb1;simp only[aN,ak,cq];rw[eO m1,dN,bl,hv.len,ak];refine⟨λ m v1 v2 v3 v8 v9 v10 ad=>∃ (i:Nat) (es:List Int),m=l.length-i/\v1=.box b1 0/\v2=.bool false/\v8=v/\v9=.int .i64 l.length/\v10=.int .i64 (i:Nat)/\i<=l.length/\nw az ad v3 es/\es.length<=i/\iu (l.drop i) i es=iu l 0 []/\cG az ad,
  ⟨_,0,[],rfl,rfl,rfl,rfl,rfl,rfl,by omega,.inl ⟨rfl,rfl⟩,by simp,rfl,cG.refl _⟩,?_⟩
 rintro m v1 v2 v3 v8 v9 v10 bF ⟨i,es,rfl,rfl,rfl,rfl,rfl,rfl,hi,wk,hel,hg,E1⟩;simp only[bX,ak,bJ];refine⟨λ aL=>?_,λ jW=>?_⟩
 . have aL:i<l.length:=by omega
   obtain⟨x,hx⟩:∃ x,l[i]?=some x:=⟨l[i],by simp[aL]⟩;have z6:l.drop i=x::l.drop (i+1):=by
    rw[iq aL];have:=(dp.1 hx).2;rw[this]
   rw[z6,iu]at hg;refine Kb hv hx λ r=>?_;rw[tZ];refine⟨by simp[df],?_⟩;have Ej:(df x++r).take 6=df x:=by simp[df]
   rw[Ej,cK];intro b4 pU;rw[cK];intro b5 od;have m4:(bF.new b4 (.box [.int .i64 0])).box b4=some [.int .i64 0]:=aI;have n45:=od.bP m4;have f4:=E1.fresh pU.1;have E2:=E1.new pU (x:=.box [.int .i64 0]);have Pm:nw az (bF.new b4 (.box [.int .i64 0])) v3 es/\(∀ b,v3=.ms b 0 es.length 1 3->b4≠b):=by
    rcases wk with h|⟨b,jg,rfl,h2,h3⟩
    . exact⟨.inl h,λ b e=>by rw[h.2]at e; cases e⟩
    . have:=pU.bP h2;exact⟨.inr ⟨b,jg,rfl,by rw[mF this]; exact h2,h3⟩,λ b' e=>by cases e; exact this.symm⟩
   obtain⟨Pm,Pp⟩:=Pm;clear wk;generalize bF.new b4 (.box [.int .i64 0])=bI at *;have m5:(bI.new b5 (.box [AV.int .u8 0,AV.str [],AV.int .i64 0,AV.int .i64 0,AV.int .i64 0,AV.int .i64 0])).box b5=some [AV.int .u8 0,AV.str [],AV.int .i64 0,AV.int .i64 0,AV.int .i64 0,AV.int .i64 0]:=aI;have f5:=E2.fresh od.1;have E3:=E2.new od (x:=.box [AV.int .u8 0,AV.str [],AV.int .i64 0,AV.int .i64 0,AV.int .i64 0,AV.int .i64 0]);have m4':=(bC od (x:=.box [AV.int .u8 0,AV.str [],AV.int .i64 0,AV.int .i64 0,AV.int .i64 0,AV.int .i64 0])).bf m4;have Pn:nw az (bI.new b5 (.box [AV.int .u8 0,AV.str [],AV.int .i64 0,AV.int .i64 0,AV.int .i64 0,AV.int .i64 0])) v3 es/\(∀ b,v3=.ms b 0 es.length 1 3->b5≠b):=by
    rcases Pm with h|⟨b,jg,rfl,h2,h3⟩
    . exact⟨.inl h,λ b e=>by rw[h.2]at e; cases e⟩
    . have:=od.bP h2;exact⟨.inr ⟨b,jg,rfl,by rw[mF this]; exact h2,h3⟩,λ b' e=>by cases e; exact this.symm⟩
   obtain⟨Pn,V6⟩:=Pn;generalize bI.new b5 (.box [AV.int .u8 0,AV.str [],AV.int .i64 0,AV.int .i64 0,AV.int .i64 0,AV.int .i64 0])=cj at *;rw[cL m4'];refine⟨⟨rfl,rfl,by simp⟩,?_⟩;rw[cL (show (cj.set b4 _).box b5=some _ by rw[aM n45.symm]; exact m5)];refine⟨⟨rfl,rfl,by simp[df]⟩,?_⟩;have E4:=(E3.set f4 (x:=.box (ax [.int .i64 0] 0 (au (.int .i64 (i:Nat)))))).set f5 (x:=.box (ax [AV.int .u8 0,AV.str [],AV.int .i64 0,AV.int .i64 0,AV.int .i64 0,AV.int .i64 0] 0 (au (.agg (df x)))));have g4:((cj.set b4 (.box (ax [.int .i64 0] 0 (au (.int .i64 (i:Nat)))))).set b5 (.box (ax [AV.int .u8 0,AV.str [],AV.int .i64 0,AV.int .i64 0,AV.int .i64 0,AV.int .i64 0] 0 (au (.agg (df x)))))).box b4=some [.int .i64 (i:Nat)]:=by
    rw[aM n45,aX]; rfl
   have g5:((cj.set b4 (.box (ax [.int .i64 0] 0 (au (.int .i64 (i:Nat)))))).set b5 (.box (ax [AV.int .u8 0,AV.str [],AV.int .i64 0,AV.int .i64 0,AV.int .i64 0,AV.int .i64 0] 0 (au (.agg (df x)))))).box b5=some (df x):=by
    rw[aX]; rfl
   have VE:nw az ((cj.set b4 (.box (ax [.int .i64 0] 0 (au (.int .i64 (i:Nat)))))).set b5 (.box (ax [AV.int .u8 0,AV.str [],AV.int .i64 0,AV.int .i64 0,AV.int .i64 0,AV.int .i64 0] 0 (au (.agg (df x)))))) v3 es:=by
    rcases Pn with h|⟨b,jg,rfl,h2,h3⟩
    . exact .inl h
    . exact .inr ⟨b,jg,rfl,by rw[aM (V6 b rfl).symm,aM (Pp b rfl).symm]; exact h2,h3⟩
   generalize (cj.set b4 (.box (ax [.int .i64 0] 0 (au (.int .i64 (i:Nat)))))).set b5 (.box (ax [AV.int .u8 0,AV.str [],AV.int .i64 0,AV.int .i64 0,AV.int .i64 0,AV.int .i64 0] 0 (au (.agg (df x)))))=cm at *;refine KD VE g4 (by omega) E4 (λ b _ e=>Pp b e) λ cY v' VF E5 hk5 _=>?_;have lU:∀ b y,b4=b\/b5=b->cm.box b=some y->cY.box b=some y:=λ b y hb hy=>by
    refine hk5 b y (λ k e=>?_) hy;rcases VE with h|⟨b',jg,rfl,h2,h3⟩
    . rw[h.2]at e; cases e
    . simp only[AV.ms.injEq]at e;rcases hb with rfl|rfl
      . exact Pp b' rfl e.1.symm
      . exact V6 b' rfl e.1.symm
   have Zt:=lU b4 _ (.inl rfl) g4;have Zu:=lU b5 _ (.inr rfl) g5;simp only[bA,OX VF,ak,eX,bJ];have En:(es.filter ((i:Int)<·)).length<=es.length:=List.length_filter_le _ _;refine⟨λ yy=>?_,λ hle=>?_⟩
   . rw[if_pos (by omega)]at hg;refine aq.mk ?_;have:ko l=true:=by simp[ko,<- hg]
     rw[this]at hR;exact hR _
   . rw[if_neg (by omega)]at hg;have Wg:=hs x (gA hx);rw[eO Zt,dN,bl];simp only[aN,ak,cq];rw[eO Zu];simp only[df,List.drop,bl,dm];refine⟨bD (by omega) (by omega),?_⟩;rw[xz];refine⟨by omega,?_⟩;rw[dQ (o:=0) (s:=1) rfl];refine⟨⟨rfl,rfl,by simp[bN]⟩,?_⟩;rw[BX];refine⟨rfl,λ bx Hm=>?_⟩;have aaE:nw az (cY.new bx (.box (ax (bN 1 [AV.int .i64 0]) 0 (au (.int .i64 ((i:Int)+x.size)))))) v' (es.filter ((i:Int)<·)):=by
      rcases VF with h|⟨b',jg,rfl,h2,h3⟩
      . exact .inl h
      . exact .inr ⟨b',jg,rfl,by rw[mF (Hm.bP h2)]; exact h2,h3⟩
     refine OW aaE (by rw[aI]; rfl) (E5.new Hm) (by omega) λ jZ v7 aaF E7=>?_;refine⟨bD (by omega) (by omega),l.length-(i+1),by omega,i+1,_,rfl,rfl,rfl,rfl,rfl,by simp,by omega,aaF,by simp; omega,hg,E7⟩
 . have hi:i=l.length:=by omega
   subst hi;rw[List.drop_length]at hg;have z8:iu l 0 []=false:=hg.symm;have yy:ko l=decide (24<(eZ l (ju l) l.length 1).length):=by simp[ko,z8]
   rw[yy]at hR;rw[cK];intro b6 o6;have m6:(bF.new b6 (.box [.int .i64 0])).box b6=some [.int .i64 0]:=aI;have WA:=(E1.new o6 (x:=.box [.int .i64 0])).bf m1;have n16:=o6.bP (E1.bf m1);generalize bF.new b6 (.box [.int .i64 0])=bI at *;rw[cL m6];refine⟨⟨rfl,rfl,by simp⟩,?_⟩;have RL:(bI.set b6 (.box (ax [.int .i64 0] 0 (au (.int .i64 0))))).box b6=some [.int .i64 (([]:List Nat).length:Nat)]:=by rw[aX]; rfl
   have aa6:(bI.set b6 (.box (ax [.int .i64 0] 0 (au (.int .i64 0))))).box b1=some [v8]:=by rw[aM n16]; exact WA
   generalize bI.set b6 (.box (ax [.int .i64 0] 0 (au (.int .i64 0))))=cj at *;rw[mR aa6];refine⟨by simp,?_⟩;refine kj [v8] (by simp[uj,hv.cA,ax]) ?_;cases l with
   | nil=>exact absurd rfl h0
   | cons x0 l =>
   have hx0:=hs x0 (by simp);refine za (n:=0) (x:=x0) hv rfl (bD (by simp; omega) (by simp; omega)) λ bn be bt cm d1 d2 d3 f1 f2 f3 k1 k2 k3 e4=>?_;have m6n:=e4.bf RL;have en:(((0:Nat):Int)+x0.size)=ju (x0::l):=by simp[ju]
   rw[en]at k2;have nn:bn≠b6:=λ e=>by rw[e]at f1; exact dA RL f1
   have ne:be≠b6:=λ e=>by rw[e]at f2; exact dA RL f2
   have nt:bt≠b6:=λ e=>by rw[e]at f3; exact dA RL f3
   refine uZ (λ ks U=>U.box b6=some [.int .i64 (ks.length:Nat)]/\U.box bn=some [.int .i64 ((0:Nat):Int)]/\U.box be=some [.int .i64 (ju (x0::l))]/\U.box bt=some [v8]/\True) (λ _=>False) hv (by simp) (by omega) rj
    (λ ks U h=>h.2.imp id λ h=>h.imp id λ h=>h.1) (λ ks U o L L' h hL=>?_) (λ ks U o L h ho=>?_) (λ _ _ _ _ h=>h.elim) (λ ks kN x cY o L1 q hI hx aL qk Z1 Es _ hL hn hr=>?_) (λ ks cY o L kM hI hL=>?_) (λ _ _ _ h=>h.elim) ⟨m6n,k1,k2,k3,trivial⟩
   . exact⟨by rw[aM (bY h.1 hL)]; exact h.1,by rw[aM (bY h.2.1 hL)]; exact h.2.1,by rw[aM (bY h.2.2.1 hL)]; exact h.2.2.1,by rw[aM (bY h.2.2.2.1 hL)]; exact h.2.2.2.1,h.2.2.2.2⟩
   . have e:=bC ho (x:=.loop L);exact⟨e.bf h.1,e.bf h.2.1,e.bf h.2.2.1,e.bf h.2.2.2.1,h.2.2.2.2⟩
   . obtain⟨i1,i2,i3,i4,i5⟩:=hI;rw[eO i1,dN,bl,dm];refine⟨bD (by omega) (by omega),?_⟩;rw[cL i1];refine⟨⟨rfl,rfl,by simp⟩,?_⟩;refine hn _ ⟨by rw[aX]; simp[ax],by rw[aM nn]; exact i2,by rw[aM ne]; exact i3,by rw[aM nt]; exact i4,trivial⟩ (hs x (gA hx)).2 (by rw[fF]; exact hL; rw[eE,if_neg (bY i1 hL).symm])
   . obtain⟨i1,i2,i3,i4,i5⟩:=hI;have i1':(cY.del o).box b6=some [.int .i64 (ks.length:Nat)]:=by rw[iD (bY i1 hL)]; exact i1
     show (ar (some (false,1)) (.box b6 0) (cY.del o)).wp K (cY.del o) _ _;rw[eO i1',dN,bl];simp only[eX,ak];subst kM;refine aq.mk ?_;have:=hR (cY.del o);have e:decide ((24:Int)<((eZ (x0::l) (ju (x0::l)) (x0::l).length (0+1)).length:Nat))=decide (24<(eZ (x0::l) (ju (x0::l)) (x0::l).length 1).length):=by
      rw[oP]; simp only[dJ,cq]; omega
     rw[e]; exact this
end Go.Rip
namespace Go.Rip
open Go.Proofs Go.RowKit
theorem mv {U:St} {a b:Nat} {l:List AV} (h:b≠a):(U.bM a l).live b=U.live b:=by
 simp[St.bM,St.set,h]
theorem gR.bM {r:Nat} {U ad:St} {b:Nat} {l:List AV} (h:gR r U ad) (n:U.live b=none):gR r U (ad.bM b l):=λ c y m e=>by
 by_cases hc:c=b
 . subst hc; rw[n]at e; cases e
 . rw[mv hc]; exact h c y m e
theorem c7.scalar {a:AV} {ns:List Nd} (hk:c7 false [a] ns):a.scalar=true:=by
 generalize hb:false=b at hk;generalize hl:[a]=la at hk;cases hk with
 | mk _ _=>cases hl; rfl
 | nil=>cases hl
 | cons _ _=>cases hb
section
variable {X:Rx} {r i:Nat} {U:St} {R:cM->St->Prop}
theorem AP (hr:U.box r=some (rd X i)) (hi:i<=X.L.length) (h1:∀ ns j a ad,eJ X.L X.E (fuel X.L) i=.ok ns j->j<=X.L.length->i<j->c7 false [a] ns->eP r (rd X j) U ad->R (.ret (.aQ [a,.int .i64 0,.bool true])) ad)
 (h2:∀ j ad,eJ X.L X.E (fuel X.L) i=.bad j->i<=j->j<=X.L.length->eP r (rd X j) U ad->R (.ret (.aQ [.aU,.int .i64 (cU X.L X.E j),.bool false])) ad):ae K 54 [.box r 0,.func (.func 55) [.box r 0] []] U R:=by
 refine zz _ _ _ _ _ _ (by kernel_rfl) λ a b c ha hb hc=>?_;have na:=ha.bP hr;have fa:U.live a=none:=ha.1;have e1:=bC ha (x:=.box [.aU]);have ka:(U.new a (.box [.aU])).box a=some [.aU]:=aI;generalize U.new a (.box [.aU])=bF at *;have nb:=hb.bP (e1.bf hr);have nab:=hb.bP ka;have fb:U.live b=none:=e1.fresh hb.1;have e2:=bC hb (x:=.box [.int .i64 0]);have kb:(bF.new b (.box [.int .i64 0])).box b=some [.int .i64 0]:=aI;have ka2:=e2.bf ka;generalize bF.new b (.box [.int .i64 0])=bI at *;have nc:=hc.bP ((e1.trans e2).bf hr);have nac:=hc.bP ka2;have nbc:=hc.bP kb;have fc:U.live c=none:=(e1.trans e2).fresh hc.1;have e3:=bC hc (x:=.box [.bool false]);have kc:(bI.new c (.box [.bool false])).box c=some [.bool false]:=aI;have ka3:=e3.bf ka2;have kb3:=e3.bf kb;have U9:=e1.trans (e2.trans e3);have vE:=U9.bf hr;generalize bI.new c (.box [.bool false])=cj at *;have hg:=kW (L:=X.L) (E:=X.E) hi;refine Pz X hi r cj _ vE ⟨λ ns j e hj v ad hk A=>?_,λ j e ad A=>?_⟩
 . rw[e]at hg;refine⟨hk.scalar,⟨_,A.ex.bf na.symm ka3⟩,⟨_,A.ex.bf nb.symm kb3⟩,⟨_,A.ex.bf nc.symm kc⟩,?_⟩;refine h1 ns j v _ e hj hg.1 hk ⟨?_,(((U9.D8.trans A.ex).bM fa).bM fb).bM fc⟩;rw[dx (mv nc),dx (mv nb),dx (mv na)];exact A.box
 . rw[e]at hg;refine⟨_,rfl,⟨_,A.ex.bf na.symm ka3⟩,⟨_,A.ex.bf nb.symm kb3⟩,⟨_,A.ex.bf nc.symm kc⟩,λ q hq=>?_⟩;have hqr:=hq.bP A.box;refine h2 j _ e hg.1 hg.2 ⟨?_,((((U9.D8.trans A.ex).new hq).bM fa).bM fb).bM fc⟩;rw[dx (mv nc),dx (mv nb),dx (mv na),mF hqr];exact A.box
end
def cZ (l:List Nd):AV:=if l=[] then .ag else .vec l.length .eR (cb l)
def dk (l:List Nd):List Nd×Int:=if 900<(node 1 [] 0 0 0 l).length\/ko (node 1 [] 0 0 0 l)=true then ([],5) else (node 1 [] 0 0 0 l,0)
theorem c7.Sh:∀ {b:Bool} {ks:List AV} {l:List Nd},c7 b ks l->∀ x∈l,1<=x.size/\x.size<=l.length:=by
 intro b ks l h
 induction h with
 | mk h1 h2 ih =>
   intro x hx;simp only[node,fe]at hx;rw[bH];rcases hx with rfl|hx
   . simp; omega
   . have:=ih x hx; omega
 | nil=>intro x hx; cases hx
 | cons h1 h2 i1 i2 =>
   intro x hx;simp only[fN]at hx;rw[eG];rcases hx with hx|hx
   . have:=i1 x hx; omega
   . have:=i2 x hx; omega
theorem QV {U:St} {R:cM->St->Prop} {v:AV} {ks:List AV} {l:List Nd} (hv:ks=[]/\v=.ag\/∃ c,v=.vec ks.length c ks) (hk:c7 true ks l) (hl:l.length<=90000)
 (h:∀ ad,cG U ad->R (.ret (.aQ [.agg [cZ (dk l).1],.int .i64 (dk l).2])) ad):ae K 56 [v] U R:=by
 refine P9 ?_;unfold R4;rw[cK];intro b2 hb2;have m2:(U.new b2 (.box [.ag])).box b2=some [.ag]:=aI;have e1:=bC hb2 (x:=.box [.ag]);have f2:=hb2.1;generalize U.new b2 (.box [.ag])=bF at *;have re:v.cA=true/\au v=[v]:=by
  rcases hv with ⟨_,rfl⟩|⟨c,rfl⟩<;>exact⟨rfl,rfl⟩
 refine kj [.int .u8 1,.str [],.int .i64 0,.int .i64 0,.int .i64 0,.int .i64 0] rfl ?_;refine kj (gz 1 [] 0 0 0 v) (by simp[uj,re,ax,gz]) ?_;rw[fY rfl];intro b9 yu;have m9:(bF.new b9 (.box (au (.agg (gz 1 [] 0 0 0 v))))).box b9=some (gz 1 [] 0 0 0 v):=aI;have e2:=e1.new yu (x:=.box (au (.agg (gz 1 [] 0 0 0 v))));have RJ:=(bC yu (x:=.box (au (.agg (gz 1 [] 0 0 0 v))))).bf m2;generalize bF.new b9 (.box (au (.agg (gz 1 [] 0 0 0 v))))=bI at *;refine CL (.inr ⟨b9,rfl,m9⟩) hk (by omega) (λ a l1 h1 h2=>wP l.length a l1 h1 h2 (by omega)) hv λ cj e3=>?_;have E9:=e3.bf RJ;have E3:=e2.trans e3;simp only[bA];have Wj:∃ t,t=node 1 [] 0 0 0 l/\t.length=l.length+1:=⟨_,rfl,rfl⟩;obtain⟨t,ht,EJ⟩:=Wj;rw[<- ht,<- EJ];refine kj [.vec t.length .eR (cb t)] rfl ?_;rw[cK];intro b5 od;have m5:(cj.new b5 (.box [.ag])).box b5=some [.ag]:=aI;have WE:=od.bP E9;have f5:=E3.fresh od.1;have E4:=E3.new od (x:=.box [.ag]);have WB:=(bC od (x:=.box [.ag])).bf E9;generalize cj.new b5 (.box [.ag])=cm at *;rw[cL m5];refine⟨⟨rfl,rfl,by simp⟩,?_⟩;have g5:(cm.set b5 (.box (ax [.ag] 0 (au (.agg [.vec t.length .eR (cb t)]))))).box b5=some [.vec t.length .eR (cb t)]:=by rw[aX]; rfl
 have g2:(cm.set b5 (.box (ax [.ag] 0 (au (.agg [.vec t.length .eR (cb t)]))))).box b2=some [.ag]:=by rw[aM WE]; exact WB
 have E5:=E4.set f5 (x:=.box (ax [.ag] 0 (au (.agg [.vec t.length .eR (cb t)]))));generalize cm.set b5 (.box (ax [.ag] 0 (au (.agg [.vec t.length .eR (cb t)]))))=cY at *;simp only[aN,ak,cq];rw[eO g5,dN,bl];simp only[qN,ak,eX,bj,aP];have cv:t≠[]:=by rw[ht]; simp[node]
 have hsz:∀ x∈t,0<=x.size/\x.size<=100000:=λ x hx=>by
  have yA:c7 false [.ca (gz 1 [] 0 0 0 v)] t:=by rw[ht]; exact .mk hk hv
  have:=yA.Sh x hx;omega
 have rj:ju t<=t.length:=by rw[ht]; simp[ju,node]
 have SV:closed (.vec t.length .eR (cb t))=true:=by
  have:∀ l:List Nd,bG (cb l)=true:=λ l=>by
   induction l with
   | nil=>rfl
   | cons x l ih=>show bG (df x++cb l)=true; simp[df,bG,closed,ih]
  exact this t
 have hgp:=uu (.inr ⟨_,rfl⟩) SV (by omega) cv hsz rj;have bad:(900<t.length\/ko t=true)->(cX (some [(0,1)]) (some [AV.ag]) none []).wp K cY (λ v21 U=>(aG (some (true,1)) (.box b2 0) v21 U).wp K U (λ _ U=>bE (some (true,1)) (.box b2 0) U λ r0=>aq R (AV.aQ [r0,(AV.int .i64 5)]) U) (aa R)) (aa R):=λ hb=>by
  refine kj [.ag] rfl ?_;rw[cL g2];refine⟨⟨rfl,rfl,by simp⟩,?_⟩;rw[oR aX];refine⟨by simp[ax],?_⟩;have hw:dk l=([],5):=by unfold dk; rw[<- ht,if_pos hb]
  rw[hw]at h;exact aq.eq (h _ (E5.set f2)) rfl
 have aaw:¬ (900<t.length\/ko t=true)->(ar (some (true,1)) (.box b5 0) cY).wp K cY (λ dy U=>(aG (some (true,1)) (.box b2 0) dy U).wp K U (λ _ U=>bE (some (true,1)) (.box b2 0) U λ r0=>aq R (AV.aQ [r0,(AV.int .i64 0)]) U) (aa R)) (aa R):=λ hb=>by
  rw[mR g5];refine⟨by simp,?_⟩;rw[cL g2];refine⟨⟨rfl,rfl,by simp⟩,?_⟩;rw[oR aX];refine⟨by simp[ax],?_⟩;have hw:dk l=(t,0):=by unfold dk; rw[<- ht,if_neg hb]
  rw[hw]at h;refine aq.eq (h _ (E5.set f2)) ?_;simp[ax,cZ,cv]
 by_cases h9:900<t.length
 . have Ei:(900:Int)<t.length:=by omega
   simp only[Ei,dq,show (true==false)=false from rfl,cz,aO,if_true,ak,a8];exact bad (.inl h9)
 . have Ei:¬ (900:Int)<t.length:=by omega
   simp only[Ei,dz,ib,cn,AD g5,jq,xf,aO,bQ,if_false,ak];refine⟨by simp,_,hgp,?_⟩;cases hg:ko t with
   | true=>simp only[a8]; exact bad (.inr hg)
   | false=>simp only[aW]; exact aaw (by rw[hg]; simp[h9])
theorem OC {U:St} {R:cM->St->Prop} {v:AV} {ks:List AV} {l:List Nd} (hv:ks=[]/\v=.ag\/∃ c,v=.vec ks.length c ks) (hk:c7 true ks l) (hl:l.length<=90000)
 (h:∀ ad w,cG U ad->B0 U ad w (dk l).1->R (.ret (.aQ [.agg [w],.int .i64 (dk l).2])) ad):ae K 56 [v] U R:=by
 refine Oa ?_;unfold FL;rw[cK];intro b2 hb2;have m2:(U.new b2 (.box [.ag])).box b2=some [.ag]:=aI;have e1:=bC hb2 (x:=.box [.ag]);have f2:=hb2.1;generalize U.new b2 (.box [.ag])=bF at *;have re:v.cA=true/\au v=[v]:=by
  rcases hv with ⟨_,rfl⟩|⟨c,rfl⟩<;>exact⟨rfl,rfl⟩
 refine kj [.int .u8 1,.str [],.int .i64 0,.int .i64 0,.int .i64 0,.int .i64 0] rfl ?_;refine kj (gz 1 [] 0 0 0 v) (by simp[uj,re,ax,gz]) ?_;rw[fY rfl];intro b9 yu;have m9:(bF.new b9 (.box (au (.agg (gz 1 [] 0 0 0 v))))).box b9=some (gz 1 [] 0 0 0 v):=aI;have e2:=e1.new yu (x:=.box (au (.agg (gz 1 [] 0 0 0 v))));have RJ:=(bC yu (x:=.box (au (.agg (gz 1 [] 0 0 0 v))))).bf m2;generalize bF.new b9 (.box (au (.agg (gz 1 [] 0 0 0 v))))=bI at *;refine Av (.inr ⟨b9,rfl,m9⟩) hk (by omega) (λ a l1 h1 h2=>wP l.length a l1 h1 h2 (by omega)) hv λ cj bm e3 fm mm=>?_;have nm2:b2≠bm:=λ e=>dA RJ (by rw[e]; exact fm);have E9:=e3.bf RJ;have E3:=e2.trans e3;have fm:=e2.fresh fm;simp only[bA];have Wj:∃ t,t=node 1 [] 0 0 0 l/\t.length=l.length+1:=⟨_,rfl,rfl⟩;obtain⟨t,ht,EJ⟩:=Wj;rw[<- ht]at mm;rw[<- EJ];have cv:t≠[]:=by rw[ht]; simp[node]
 refine kj [.ms bm 0 t.length 6 43] rfl ?_;rw[cK];intro b5 od;have m5:(cj.new b5 (.box [.ag])).box b5=some [.ag]:=aI;have WE:=od.bP E9;have n5m:=od.bP mm;have f5:=E3.fresh od.1;have E4:=E3.new od (x:=.box [.ag]);have WB:=(bC od (x:=.box [.ag])).bf E9;have mm:=(bC od (x:=.box [.ag])).bf mm;generalize cj.new b5 (.box [.ag])=cm at *;rw[cL m5];refine⟨⟨rfl,rfl,by simp⟩,?_⟩;have g5:(cm.set b5 (.box (ax [.ag] 0 (au (.agg [.ms bm 0 t.length 6 43]))))).box b5=some [.ms bm 0 t.length 6 43]:=by rw[aX]; rfl
 have g2:(cm.set b5 (.box (ax [.ag] 0 (au (.agg [.ms bm 0 t.length 6 43]))))).box b2=some [.ag]:=by rw[aM WE]; exact WB
 have gm:(cm.set b5 (.box (ax [.ag] 0 (au (.agg [.ms bm 0 t.length 6 43]))))).box bm=some (cb t):=by rw[aM n5m]; exact mm
 have E5:=E4.set f5 (x:=.box (ax [.ag] 0 (au (.agg [.ms bm 0 t.length 6 43]))));generalize cm.set b5 (.box (ax [.ag] 0 (au (.agg [.ms bm 0 t.length 6 43]))))=cY at *;have hsz:∀ x∈t,0<=x.size/\x.size<=100000:=λ x hx=>by
  have yA:c7 false [.ca (gz 1 [] 0 0 0 v)] t:=by rw[ht]; exact .mk hk hv
  have:=yA.Sh x hx;omega
 have rj:ju t<=t.length:=by rw[ht]; simp[ju,node]
 have ZH:∀ l:List Nd,bG (cb l)=true:=λ l=>by
  induction l with
  | nil=>rfl
  | cons x l ih=>show bG (df x++cb l)=true; simp[df,bG,closed,ih]
 have hre:(cb t).map (resolve 3 cY)=cb t:=by
  have:∀ l:List Nd,(cb l).map (resolve 3 cY)=cb l:=λ l=>by
   induction l with
   | nil=>rfl
   | cons x l ih=>show (df x++cb l).map _=df x++cb l; rw[List.map_append,ih]; rfl
  exact this t
 intro j hj;refine (show ∀ {P:Prop},P->P from id) ?_;have jj:∀ b:Bool,(b=true↔900<t.length\/ko t=true)->j (.box b2 0) (.box b5 0) (.bool b) cY:=by
  intro b hb;refine hj _ _ _ _ ?_;cases b with
  | true =>
    simp only[a8];refine kj [.ag] rfl ?_;rw[cL g2];refine⟨⟨rfl,rfl,by simp⟩,?_⟩;rw[oR aX];refine⟨by simp[ax],?_⟩;have hw:dk l=([],5):=by unfold dk; rw[<- ht,if_pos (hb.1 rfl)]
    rw[hw]at h;exact aq.eq (h _ _ (E5.set f2) (.inl ⟨rfl,rfl⟩)) rfl
  | false =>
    simp only[aW];rw[mR g5];refine⟨by simp,?_⟩;rw[cL g2];refine⟨⟨rfl,rfl,by simp⟩,?_⟩;rw[oR aX];refine⟨by simp[ax],?_⟩;have hw:dk l=(t,0):=by unfold dk; rw[<- ht,if_neg (λ h=>nomatch hb.2 h)]
    rw[hw]at h;exact aq.eq (h _ (.ms bm 0 t.length 6 43) (E5.set f2) (.inr ⟨bm,rfl,by rw[aM (Ne.symm nm2)]; exact gm,fm,cv⟩)) rfl
 simp only[aN,ak,cq];rw[eO g5,dN,bl];simp only[Am,ak,eX]
 by_cases h9:900<t.length
 . have Ei:(900:Int)<t.length:=by omega
   simp only[Ei,dq,bj,show (true==false)=false from rfl,aP,cz,aW,aO,if_true,ak];exact jj true (by simp[h9])
 . have Ei:¬ (900:Int)<t.length:=by omega
   simp only[Ei,dz,bj,ib,aP,cn,AD g5,a8];refine⟨by simp,?_⟩;refine ae.Ib 5 sM (args0:=[.agg [.vec t.length .eR (cb t)]]) (λ g vs hr=>?_) (by simp[bG,closed,ZH t]) rfl (uu (.inr ⟨_,rfl⟩) (ZH t) (by omega) cv hsz rj) ?_
   . have e:([AV.agg (List.take 1 (List.drop 0 [AV.ms bm 0 t.length 6 43]))]).map (resolve 5 cY)=[.agg [.vec t.length .eR (cb t)]]:=by
      show [AV.agg [resolve 4 cY (.ms bm 0 t.length 6 43)]]=_;rw[show resolve 4 cY (.ms bm 0 t.length 6 43)=.vec t.length .eR ((cb t).map (resolve 3 cY)) by simp[resolve,gm],hre]
     rw[e]at hr;exact hr
   . simp only[bA,aO,bQ,if_false,ak];exact jj _ (by simp[h9])
end Go.Rip
