/- Lemmas for the proof: no conditions. -/
import Derived.Test.YtnfpmiiopiinbaaGreatDoorRipZz
import Derived.Test.YtnfpmiiopiinbaaGreatDoorRipO
import Derived.Test.YtnfpmiiopiinbaaGreatDoorRipP
import Derived.Test.YtnfpmiiopiinbaaGreatDoorRipI
import Derived.Test.YtnfpmiiopiinbaaGreatDoorRipK
set_option linter.unusedVariables false
set_option linter.unusedSimpArgs false
set_option linter.loopingSimpArgs false
namespace Go.Rip
open Go.Proofs Go.RowKit
def dY (x:Nd):List AV:=[.int .u8 x.kind,.str x.text,.int .i64 x.n,.int .i64 x.m,.int .i64 x.at_,.int .i64 x.size]
def cF (l:List Nd):List AV:=l.flatMap dY
theorem KB (l l':List Nd):cF (l++l')=cF l++cF l':=by simp [cF]
theorem qf (L:List Nd):(cF L).length=6 * L.length:=by
 induction L with
 | nil=>rfl
 | cons t L ih =>
   have:(cF (t::L)).length=6+(cF L).length:=by simp [cF,dY]; omega
   rw [this,ih,fm]; omega
theorem Qo (L:List Nd) (i:Nat):(cF L).drop (i * 6)=cF (L.drop i):=by
 induction L generalizing i with
 | nil=>simp [cF]
 | cons t L ih =>
   cases i with
   | zero=>simp
   | succ i =>
     rw [Nat.add_mul,show i * 6+1 * 6=6+i * 6 by omega,<- List.drop_drop,List.drop_succ_cons,<- ih]
     rfl
theorem LW {L:List Nd} {i:Nat} {t:Nd} (h:L[i]?=some t):∃ r,(cF L).drop (i * 6)=dY t++r:=by
 rw [Qo,ib (dC.1 h).1]
 refine ⟨cF (L.drop (i+1)),?_⟩
 have:=(dC.1 h).2
 simp [cF,this]
section
variable {C:cS} {U:St} {K':AV->St->Prop} {Kp:AV->St->Prop} {e sz n b m:Nat} {L l2 z:List AV} {y:AV}
theorem Am {ps:List (Nat × AV)}:(ar (some (e,sz)) (some z) n true ps).wp C U K' Kp=(n * sz <= 16777216/\(gI (fun i=>some (i * sz,sz)) ps (bO n z) fun cs=>.cond (cs.length=n * sz) (.pF n sz e none cs)).wp C U K' Kp):=by
 simp only [ar,if_true]; rfl
theorem EU {pl:Nat->Option (Nat × Nat)} {k:Nat}:(gI pl [] L fun cs=>.cond (cs.length=k) (.pF n sz e none cs)).wp C U K' Kp=(L.length=k/\∀ b,U.dA b->K' (.ms b 0 n sz e) (U.new b (.box L))):=rfl
theorem Tv {mu:Bool} (hb:U.box b=some L) (hy:rI U y=some (m,l2)) (h:l2.length=m * sz/\n * sz <= L.length/\n+m <= 4294967296) (hk:∀ b',(U.del b).dA b'->K' (.ms b' 0 (n+m) sz e) ((U.del b).new b' (.box (L.take (n * sz)++l2)))):(eR (some (e,sz)) mu (.ms b 0 n sz e) y U).wp C U K' Kp:=by
 simp only [eR,hy,hb,wp_cond]
 exact ⟨h.1,⟨trivial,trivial,trivial,h.2.1,h.2.2⟩,hk⟩
end
def Ptr (U:St) (p:AV) (cs:List AV):Prop:=p=.cQ cs\/∃ b,p=.box b 0/\U.box b=some cs
def D6 (a:AV) (l:List Nd):Prop:=∀ (U:St) (R:cY->St->Prop),(∀ ad,dm U ad->R (.ret (.vec l.length .jc (cF l))) ad)->ae K 110 [a] U R
theorem eE.split {ks:List AV} {l:List Nd} {a:AV} {i:Nat} (h:eE true (ks.drop i) l) (ha:ks[i]?=some a):∃ l1 l2,l=l1++l2/\eE false [a] l1/\eE true (ks.drop (i+1)) l2:=by
 obtain ⟨aQ,rfl⟩:=dC.1 ha
 rw [ib aQ] at h
 generalize hb:true=b at h
 generalize hl:ks[i]::ks.drop (i+1)=la at h
 cases h with
 | mk _ _=>cases hb
 | nil=>cases hl
 | cons h1 h2=>cases hl; exact ⟨_,_,rfl,h1,h2⟩
theorem eE.YE {l:List Nd} (h:eE true [] l):l=[]:=by
 generalize hb:true=b at h
 generalize hl:([]:List AV)=la at h
 cases h with
 | mk _ _=>cases hb
 | nil=>rfl
 | cons _ _=>cases hl
theorem eE.le:∀ {ks:List AV} {l:List Nd},eE true ks l->ks.length <= l.length
 | [],_,_=>by simp
 | a::ks,l,h=>by
   obtain ⟨l1,l2,rfl,h1,h2⟩:=eE.split (ks:=a::ks) (a:=a) (i:=0) h rfl
   obtain ⟨x,r,e,_⟩:=h1.size
   have:=eE.le (ks:=ks) h2
   rw [e]; simp; omega
theorem Dp {au U:St} {R:cY->St->Prop} {ks:List AV} {l:List Nd} {b:Nat} {kind:Int} {text:aG} {n m at_:Int} {kv:AV} (hk:eE true ks l) (hl:l.length <= 100000) (Wm:∀ a l1,eE false [a] l1->l1.length <= l.length->D6 a l1)
 (Bo:ks=[]/\kv=.aq\/∃ c,kv=.vec ks.length c ks) (hb:U.box b=some [.int .u8 kind,.str text,.int .i64 n,.int .i64 m,.int .i64 at_,.int .i64 0]) (hn:au.live b=none) (hE:dm au U)
 (h:∀ ad,dm au ad->R (.ret (.vec (l.length+1) .jc (cF (node kind text n m at_ l)))) ad) :
 (cE (some false) kv).wp K U (fun cb U =>
 fy 4 [.ms b 0 1 6 43,kv,cb,(AV.int .i64 0)] U fun lp v3 rM yA cU U =>
  (aw .lss (BT.mk false false false none false) false cU yA).wp K U (fun dM U =>
  av dM (
   (aO (some (87,1)) none rM cU).wp K U (fun cA U =>
   (ak (some (false,1)) cA U).wp K U (fun de U =>
   ae K 110 [de] U (ag (fun eo U =>
   (eR (some (43,6)) true v3 eo U).wp K U (fun eL U =>
   (aw .add (BT.mk false false false none false) true cU (AV.int .i64 1)).wp K U (fun v24 U =>
   lp eL rM yA v24 U) (aa R)) (aa R)) (aa R))) (aa R)) (aa R)) (
   (cE (some false) v3).wp K U (fun ef U =>
   (aO (some (43,6)) none v3 (AV.int .i64 0)).wp K U (fun v28 U =>
   (af (some 5) v28).wp K U (fun ep U =>
   (aI (some (false,1)) ep ef U).wp K U (fun _ U =>
   al R v3 U) (aa R)) (aa R)) (aa R)) (aa R))) (aa R)) (aa R):=by
 have hlen:cE (some false) kv=.val (.int .i64 ks.length):=by
  rcases Bo with ⟨rfl,rfl⟩ | ⟨c,rfl⟩ <;> rfl
 rw [hlen,aj]
 refine ⟨fun mm v3 cG cb cU ad=>∃ (i b':Nat) (acc rest:List Nd),mm=ks.length - i/\i <= ks.length/\v3=.ms b' 0 (acc.length+1) 6 43/\cG=kv/\cb=.int .i64 ks.length/\cU=.int .i64 (i:Nat)/\l=acc++rest/\eE true (ks.drop i) rest/\ad.box b'=some ([.int .u8 kind,.str text,.int .i64 n,.int .i64 m,.int .i64 at_,.int .i64 0]++cF acc)/\au.live b'=none/\dm au ad,
  ⟨_,0,b,[],l,rfl,by omega,rfl,rfl,rfl,rfl,rfl,hk,by simpa [cF] using hb,hn,hE⟩,?_⟩
 rintro mm v3 cG cb cU aR ⟨i,b',acc,rest,rfl,hi,rfl,rfl,rfl,rfl,tC,Lq,fC,Fv,hE'⟩
 have iE:ks.length <= l.length:=hk.le
 simp only [cq,aj,ca]
 refine ⟨fun aQ=>?_,fun lI=>?_⟩
 . have aQ:i < ks.length:=by omega
   rcases Bo with ⟨rfl,_⟩ | ⟨c,rfl⟩
   . simp at aQ
   rw [Cz]
   refine ⟨by omega,?_⟩
   have hd:ks.drop ((i:Int).toNat * 1)=ks[i]::ks.drop (i+1):=by rw [jH,Nat.mul_one]; exact ib aQ
   rw [hd,oH,bC]
   obtain ⟨l1,l2,C2,h1,h2⟩:=Lq.split (a:=ks[i]) (by simp [aQ])
   have adU:l1.length <= l.length:=by rw [tC,C2]; simp; omega
   refine Wm _ l1 h1 adU aR _ fun bh e2=>?_
   simp only [bE]
   have UF:acc.length+l1.length <= l.length:=by rw [tC,C2]; simp
   refine Tv (sz:=6) (m:=l1.length) (l2:=cF l1) (e2.bg fC) rfl ⟨by rw [qf]; omega,by simp [qf]; omega,by omega⟩ fun b2 hf=>?_
   rw [dO]
   refine ⟨bK (by omega) (by omega),ks.length - (i+1),by omega,i+1,b2,acc++l1,l2,rfl,aQ,?_,rfl,rfl,by simp,by rw [tC,C2]; simp,h2,?_,?_,?_⟩
   . simp; omega
   . rw [aK,KB]
     have:(acc.length+1) * 6=([AV.int .u8 kind,.str text,.int .i64 n,.int .i64 m,.int .i64 at_,.int .i64 0]++cF acc).length:=by simp [qf]; omega
     rw [this,tq,gi]
   . have rp:((bh.del b').live b2)=none:=hf.1
     by_cases Lk:b2=b'
     . rw [Lk]; exact Fv
     . rw [kJ,if_neg Lk] at rp
       exact (hE'.trans e2).fresh rp
   . exact ((hE'.trans e2).del Fv).new hf
 . have hi:i=ks.length:=by omega
   subst hi
   rw [List.drop_length] at Lq
   have:=Lq.YE
   subst this
   rw [gD] at tC
   subst tC
   simp only [IZ,aj]
   rw [DZ]
   refine ⟨⟨by omega,by omega,rfl⟩,?_⟩
   simp only [aZ,aj,df,show (0:Int).toNat * 6=0 from rfl]
   rw [dk fC]
   refine ⟨⟨rfl,rfl,by simp⟩,?_⟩
   refine ⟨_,_,oQ.Ul (a7),?_⟩
   have:=h ((aR.set b' (.box (aA ([.int .u8 kind,.str text,.int .i64 n,.int .i64 m,.int .i64 at_,.int .i64 0]++cF l) 5 (ax (.int .i64 ((l.length+1:Nat):Int)))))).del b') ((hE'.set Fv).del Fv)
   have e:aA ([.int .u8 kind,.str text,.int .i64 n,.int .i64 m,.int .i64 at_,.int .i64 0]++cF l) 5 (ax (.int .i64 ((l.length+1:Nat):Int)))=cF (node kind text n m at_ l):=by
    simp [aA,node,cF,dY]
   rw [e] at this ⊢
   exact this
theorem F8 {U:St} {R:cY->St->Prop} {p:AV} {ks:List AV} {l:List Nd} {kind:Int} {text:aG} {n m at_:Int} {kv:AV} (hp:Ptr U p (mw kind text n m at_ kv)) (hk:eE true ks l) (hl:l.length <= 100000) (Wm:∀ a l1,eE false [a] l1->l1.length <= l.length->D6 a l1)
 (Bo:ks=[]/\kv=.aq\/∃ c,kv=.vec ks.length c ks) (h:∀ ad,dm U ad->R (.ret (.vec (l.length+1) .jc (cF (node kind text n m at_ l)))) ad):ae K 110 [p] U R:=by
 refine Re ?_
 unfold Rc
 rcases hp with rfl | ⟨b,rfl,hb⟩
 . simp only [yZ,aj,dJ,eD]
   rw [uc]
   refine ⟨by simp [mw],?_⟩
   rw [Am]
   refine ⟨by omega,?_⟩
   rw [eJ (o:=0) (s:=6) rfl]
   refine ⟨⟨rfl,by simp [mw],by simp [bO]⟩,?_⟩
   rw [EU]
   refine ⟨rfl,fun b hf=>?_⟩
   simp only [mw,List.drop,oH,bC]
   exact Dp hk hl Wm Bo (aK) hf.1 ((dm.refl U).new hf) h
 . simp only [bN,aj,aZ,df]
   rw [pc hb]
   refine ⟨by simp [mw],?_⟩
   rw [Am]
   refine ⟨by omega,?_⟩
   rw [eJ (o:=0) (s:=6) rfl]
   refine ⟨⟨rfl,by simp [mw],by simp [bO]⟩,?_⟩
   rw [EU]
   refine ⟨rfl,fun b2 hf=>?_⟩
   rw [gM ((bB hf).bg hb)]
   simp only [mw,List.drop,bC]
   exact Dp hk hl Wm Bo (aK) hf.1 ((dm.refl U).new hf) h
theorem F7:∀ (N:Nat) (a:AV) (l:List Nd),eE false [a] l->l.length <= N->N <= 100000->D6 a l
 | 0,a,l,h,hl,_=>by
   obtain ⟨x,r,e,_⟩:=h.size
   rw [e] at hl; simp at hl
 | N+1,a,l,h,hl,hN=>by
   generalize hb:false=b at h
   generalize ha:[a]=la at h
   cases h with
   | nil=>cases ha
   | cons _ _=>cases hb
   | mk h1 h2 =>
     cases ha
     rw [bU] at hl
     intro U R hR
     exact F8 (.inl rfl) h1 (by omega) (fun a l1 hk Ik=>F7 N a l1 hk (by omega) (by omega)) h2 hR
end Go.Rip
namespace Go.Rip
open Go.Proofs Go.RowKit
theorem eP.atN {v:AV} {l:List Nd} (h:eP v l.length (cF l)) {i:Nat} {x:Nd} (hx:l[i]?=some x) {e:Nat}:∃ r,aO (some (e,6)) none v (.int .i64 (i:Int))=.cond (0 <= (i:Int)/\(i:Int) < l.length) (.val (.cQ (dY x++r))):=by
 obtain ⟨c,rfl,tB⟩:=h.at (sz:=6) (e:=e) (dC.1 hx).1
 obtain ⟨r,hr⟩:=LW hx
 exact ⟨r,by rw [tB,hr]⟩
section
variable {C:cS} {U:St} {K':AV->St->Prop} {Kp:AV->St->Prop} {k:AV->Prop} {v:AV} {l:List Nd} {i e:Nat} {x:Nd}
theorem EV (h:eP v l.length (cF l)) (hx:l[i]?=some x) (hk:∀ r,K' (.cQ (dY x++r)) U):(aO (some (e,6)) none v (.int .i64 (i:Int))).wp C U K' Kp:=by
 obtain ⟨r,hr⟩:=h.atN hx (e:=e)
 rw [hr]
 have:=(dC.1 hx).1
 exact ⟨by omega,hk r⟩
theorem Ci (h:eP v l.length (cF l)) (hx:l[i]?=some x) (hk:∀ r,k (.cQ (dY x++r))):aB C (aO (some (e,6)) none v (.int .i64 (i:Int))) k:=by
 obtain ⟨r,hr⟩:=h.atN hx (e:=e)
 rw [hr]
 have:=(dC.1 hx).1
 exact ⟨by omega,hk r⟩
end
theorem eP.dh {v:AV} {n:Nat} {cs:List AV} (h:eP v n cs):v.dh=true/\ax v=[v]:=by
 rcases h with ⟨rfl,rfl,rfl⟩ | ⟨c,rfl⟩ <;> exact ⟨rfl,rfl⟩
theorem xZ {U:St} {R:cY->St->Prop} {v:AV} {l:List Nd} {n:Nat} {x:Nd} (hv:eP v l.length (cF l)) (hx:l[n]?=some x) (h64:wm ((n:Int)+x.size))
 (h:∀ bn be bt ad,bn ≠ be->bn ≠ bt->be ≠ bt->U.live bn=none->U.live be=none->U.live bt=none->ad.box bn=some [.int .i64 (n:Nat)]->ad.box be=some [.int .i64 ((n:Int)+x.size)]->ad.box bt=some [v]->dm U ad->R (.ret (.func (.func 155) [] [.box bn 0,.box be 0,.box bt 0])) ad):ae K 81 [.agg [v],.int .i64 (n:Nat)] U R:=by
 refine VB ?_
 unfold Xz
 rw [hU rfl]
 intro bt hbt
 rw [hU rfl]
 intro bn Pv
 have mt:(U.new bt (.box (ax (.agg [v])))).box bt=some [v]:=aK
 have e1:=bB hbt (x:=.box (ax (.agg [v])))
 have fr1:U.live bt=none:=hbt.1
 generalize U.new bt (.box (ax (.agg [v])))=aR at *
 have e2:=bB Pv (x:=.box (ax (.int .i64 (n:Nat))))
 have mn:(aR.new bn (.box (ax (.int .i64 (n:Nat))))).box bn=some [.int .i64 (n:Nat)]:=aK
 have ntn:=Pv.bX mt
 have fr2:U.live bn=none:=e1.fresh Pv.1
 generalize aR.new bn (.box (ax (.int .i64 (n:Nat))))=bh at *
 have mt2:=e2.bg mt
 simp only [su mn,eD,jQ,aZ,aJ,df,su mt2]
 refine Ci hv hx fun r=>?_
 simp only [dJ,aJ,dY,gE,List.drop,s8,jQ,N5]
 refine ⟨h64,?_⟩
 rw [cZ]
 intro be wH
 have e3:=bB wH (x:=.box [.int .i64 0])
 have me:(bh.new be (.box [.int .i64 0])).box be=some [.int .i64 0]:=aK
 have nne:=wH.bX mn
 have nte:=wH.bX mt2
 have fr3:U.live be=none:=(e1.trans e2).fresh wH.1
 refine ⟨?_,?_⟩
 . intro b hb
   simp only [eM,jY,gD,cJ,gu,List.not_mem_nil,or_false] at hb
   have:b=bn\/b=bt:=by
    rcases hb with h | h | h <;> simp_all
   rw [mM]
   rcases this with rfl | rfl
   . rw [if_neg nne]
   . rw [if_neg nte]
 . rw [dk me]
   refine ⟨⟨rfl,rfl,by simp⟩,al.mk (h bn be bt _ nne ntn.symm nte.symm fr2 fr3 fr1 ?_ ?_ ?_ ((e1.trans (e2.trans e3)).set fr3))⟩
   . rw [aY nne]; exact e3.bg mn
   . rw [a7]; rfl
   . rw [aY nte]; exact e3.bg mt2
theorem xV (l:List Nd) (en:Int):∀ (f p:Nat),(fl l en f p).length <= f
 | 0,_=>by simp [fl]
 | f+1,p=>by
   simp only [fl]
   split
   . split
     . have:=xV l en f (p+(Nd.size ‹_›).toNat)
       simp; omega
     . simp
   . simp
theorem DD {v:AV} {l:List Nd} {n:Nat} {en:Int} {bn be bt:Nat} {U:St} {B:AV->Qr->St->Prop} {Kn:St->Prop} {Ke:Nat->St->Prop} {Kr:St->Prop} {Kp:AV->St->Prop} (I:List Nat->St->Prop) (J:St->Prop)
 (hv:eP v l.length (cF l)) (hn:n < l.length) (hlen:l.length <= 100000) (hen:en <= l.length)
 (B5:∀ ks U,I ks U->U.box bn=some [.int .i64 (n:Nat)]/\U.box be=some [.int .i64 en]/\U.box bt=some [v])
 (C3:∀ ks U o L L',I ks U->U.loop o=some L->I ks (U.set o (.loop L')))
 (qx:∀ ks U o L,I ks U->U.dA o->I ks (U.new o (.loop L)))
 (hJ:∀ U o L L',J U->U.loop o=some L->J (U.set o (.loop L')))
 (body:∀ (ks:List Nat) (jD:Nat) (x:Nd) (aR:St) (o:Nat) (L1:fL) (q:Qr),I ks aR->l[jD]?=some x->(jD:Int) < en->0 < x.size->n < jD->ks.length < l.length->(∃ r,fl l en l.length (n+1)=ks++jD::r)->aR.loop o=some L1 ->
   (∀ bh,I (ks++[jD]) bh->x.size <= 100000->bh.loop o=some L1->q.n bh)->(∀ bh,J bh->bh.loop o=some L1->q.r bh)->B (.int .i64 (jD:Nat)) q aR)
 (fin:∀ ks aR o L,ks=fl l en l.length (n+1)->I ks aR->aR.loop o=some L->Kn (aR.del o))
 (Uf:∀ aR o L,J aR->aR.loop o=some L->Kr (aR.del o))
 (h0:I [] U):rF K 1 (.func (.func 155) [] [.box bn 0,.box be 0,.box bt 0]) U (fun v q U=>q.Dm (fun U=>B v q U) U) Kn Ke Kr Kp:=by
 refine ⟨by kernel_rfl,fun o L ho H4 Ps Y=>?_⟩
 have I1:=qx _ _ o L h0 ho
 have L8:=vX (U:=U) (b:=o) (L:=L)
 generalize U.new o (.loop L)=aR at *
 refine Gm ?_
 unfold JA
 rw [gM (B5 _ _ I1).1,eD,bC,dO]
 refine ⟨bK (by omega) (by omega),?_⟩
 refine ⟨fun m v0 v2 v3 v5 ad=>∃ ks f p,m=l.length - p/\v0=.rZ o/\v2=.box be 0/\v3=.box bt 0/\v5=.int .i64 (p:Nat)/\n < p/\p <= 300000/\l.length - p <= f/\ks++fl l en f p=fl l en l.length (n+1)/\I ks ad/\∃ L1,ad.loop o=some L1/\L1.st .ready none=L/\L1.state=.ready/\L1.gh=none,
  ⟨_,[],l.length,n+1,rfl,rfl,rfl,rfl,by simp,by omega,by omega,by omega,rfl,I1,L,L8,by cases L; simp_all [fL.st],H4,Ps⟩,?_⟩
 clear I1 L8
 rintro m v0 v2 v3 v5 bh ⟨ks,f,p,rfl,rfl,rfl,rfl,rfl,hnp,hp3,hf,iE,I2,L1,jB,fV,Br,Bq⟩
 obtain ⟨k1,k2,k3⟩:=B5 _ _ I2
 rw [gM k2,eD,bC]
 simp only [cq,aj,bj,aP]
 have stop:fl l en f p=[]->al (Jv o Kn Ke Kr Kp) (.aH []) bh:=fun h=>by
  rw [h,gD] at iE
  refine al.mk ⟨L1,jB,by rw [Br]; simp,?_⟩
  rw [Bq]
  exact fin ks bh o L1 iE I2 jB
 by_cases aQ:(p:Int) < en
 . have nx:p < l.length:=by omega
   obtain ⟨x,hx⟩:∃ x,l[p]?=some x:=⟨l[p],by simp [nx]⟩
   cases f with
   | zero=>omega
   | succ f =>
   have wN:fl l en (f+1) p=if 0 < x.size then p::fl l en f (p+x.size.toNat) else []:=by
    simp only [fl,hx,aQ,true_and]
   simp only [aQ,dZ,iJ,cI,aJ,aZ,df,su k3,eD,jQ,mA]
   refine Ci hv hx fun r=>?_
   simp only [dJ,aJ,mA,dY,gE,List.drop,s8,jQ,eQ,aM,if_true,aj,ca]
   refine ⟨fun hs=>?_,fun hs=>?_⟩
   . rw [if_pos hs] at wN
     simp only [jk,yH]
     refine Y _ _ _ L1 rfl jB fV ?_
     refine ⟨L1,jB,Br,?_⟩
     have I3:=C3 _ _ o L1 { L1 with state:=.busy } I2 jB
     have sV:ks.length < l.length:=by
      have:=xV l en l.length (n+1)
      rw [<- iE,wN] at this
      simp at this; omega
     refine body ks p x _ o { L1 with state:=.busy } _ I3 hx aQ hs hnp sV ⟨_,by rw [<- iE,wN]⟩ fT (fun bW I4 rU tA=>?_) fun bW hJ3 tA=>?_
     . refine ⟨_,tA,?_⟩
       have I5:=C3 _ _ o _ { L1 with state:=.ready,gh:=none } I4 tA
       obtain ⟨j1,j2,j3⟩:=B5 _ _ I5
       simp only [bE,eI,aj,du,bp,aZ,df]
       rw [gM j3,eD,bC]
       refine EV hv hx fun r=>?_
       simp only [dJ,aj,dY,gE,List.drop,oH,bC,dO]
       refine ⟨bK (by omega) (by omega),_,?_,ks++[p],f,p+x.size.toNat,rfl,rfl,rfl,rfl,?_,by omega,by omega,by omega,?_,I5,_,fT,by rw [<- fV]; rfl,rfl,rfl⟩
       . omega
       . congr 1; omega
       . rw [<- iE,wN]; simp
     . refine ⟨_,tA,?_⟩
       simp only [bE,eI,aj,fD,bG]
       refine al.mk ⟨_,fT,by simp,?_⟩
       exact Uf _ o _ (hJ _ o _ _ hJ3 tA) fT
   . rw [if_neg hs] at wN
     exact stop wN
 . simp only [aQ,eX,show (false == true)=false from rfl,cC,aM,bQ,if_false,aj,bp]
   refine stop ?_
   cases f with
   | zero=>rfl
   | succ f =>
     simp only [fl]
     split
     . rw [if_neg (fun h=>aQ h.1)]
     . rfl
end Go.Rip
namespace Go.Rip
open Go.Proofs Go.RowKit
def pX (au U:St) (v:AV) (es:List Int):Prop:=(es=[]/\v=.aq)\/∃ b lL,v=.ms b 0 es.length 1 3/\U.box b=some (es.map (.int .i64)++lL)/\au.live b=none
section
variable {au U:St} {R:cY->St->Prop} {K':AV->St->Prop} {Kp:AV->St->Prop}
theorem W0 {b:Nat} {n a:Int} (hb:U.box b=some [.int .i64 n]) (h:R (.ret (.bool (decide (a <= n)))) U):ae K 133 [.int .i64 a,.box b 0] U R:=by
 refine RB ?_
 unfold RA
 rw [gM hb,eD,bC]
 simp only [lq,aj]
 exact al.mk h
theorem aeP {b:Nat} {L:List AV} {es:List Int} {lL:List AV} (h:U.box b=some L) (hL:L=es.map (.int .i64)++lL) {i n:Nat} (hi:i < es.length) (hn:i < n) (hk:K' (.int .i64 es[i]) U) :
 (aO (some (3,1)) none (.ms b 0 n 1 3) (.int .i64 (i:Nat))).wp K U (fun v U=>(ak (some (false,1)) v U).wp K U K' Kp) Kp:=by
 rw [DZ]
 refine ⟨⟨by omega,by omega,rfl⟩,?_⟩
 rw [gM h]
 have:L.drop (0+(i:Int).toNat * 1)=.int .i64 es[i]::((es.map (AV.int .i64)).drop (i+1)++lL):=by
  rw [hL,jH,Nat.mul_one,df,List.drop_append_of_le_length (by simp; omega),ib (by simpa using hi)]
  simp
 rw [this,bC]
 exact hk
theorem FE {b bn:Nat} {es:List Int} {lL:List AV} {n:Int} (hb:U.box b=some (es.map (.int .i64)++lL)) (hn:U.box bn=some [.int .i64 n]) (hl:es.length <= 100000)
 (h:(∃ k,k < es.length/\(es.take k).all (fun a=>decide (n < a))=true/\(∃ hk:k < es.length,es[k] <= n)/\R (.ret (.int .i64 (k:Nat))) U)\/(es.all (fun a=>decide (n < a))=true/\R (.ret (.int .i64 (-1))) U)) :
 ae K 210 [.ms b 0 es.length 1 3,.func (.func 133) [] [.box bn 0]] U R:=by
 refine Gq ?_
 unfold JD
 simp only [IZ,aj]
 refine ⟨fun m v0 v1 v7 v8 ad=>∃ i:Nat,m=es.length - i/\i <= es.length/\v0=.ms b 0 es.length 1 3/\v1=.func (.func 133) [] [.box bn 0]/\v7=.int .i64 es.length/\v8=.int .i64 i/\ad=U/\(es.take i).all (fun a=>decide (n < a))=true,⟨_,0,rfl,by omega,rfl,rfl,rfl,rfl,rfl,by simp⟩,?_⟩
 rintro m v0 v1 v7 v8 ad ⟨i,rfl,hi,rfl,rfl,rfl,rfl,rfl,cm⟩
 simp only [cq,aj,ca]
 have Lj:∀ (k:Nat) (hk:k < es.length),(es.take i).all (fun a=>decide (n < a))=true->k < i->n < es[k]:=fun k hk ha Lp=>by
  rw [fe] at ha
  have:es[k] ∈ es.take i:=by
   rw [List.mem_iff_getElem]
   exact ⟨k,by simp; omega,by simp⟩
  simpa using ha _ this
 refine ⟨fun aQ=>?_,fun lI=>?_⟩
 . have aQ:i < es.length:=by omega
   refine aeP hb rfl aQ aQ ?_
   simp only [jk,show fw K.P 133=true by kernel_rfl,if_true,lR,jY,gE]
   refine W0 hn ?_
   simp only [bE,ca]
   refine ⟨fun hle=>?_,fun wM=>?_⟩
   . rcases h with ⟨k,hk,qO,⟨_,gz⟩,hR⟩ | ⟨hA,_⟩
     . have:k=i:=by
        rcases Nat.lt_trichotomy k i with h | h | h
        . have:=Lj k hk cm h; omega
        . exact h
        . rw [fe] at qO
          have hm:es[i] ∈ es.take k:=by
           rw [List.mem_iff_getElem]
           exact ⟨i,by simp; omega,by simp⟩
          have:=qO _ hm
          simp at this; omega
       subst this
       exact al.mk hR
     . rw [fe] at hA
       have:=hA es[i] (List.getElem_mem aQ)
       simp at this; omega
   . rw [dO]
     refine ⟨bK (by omega) (by omega),es.length - (i+1),by omega,i+1,rfl,by omega,rfl,rfl,rfl,by simp,rfl,?_⟩
     rw [sx,pU aQ,List.all_append,cm]
     simp; omega
 . have hi:i=es.length:=by omega
   subst hi
   rw [tq] at cm
   rcases h with ⟨k,hk,qO,⟨_,gz⟩,hR⟩ | ⟨_,hR⟩
   . rw [fe] at cm
     have:=cm es[k] (List.getElem_mem hk)
     simp at this; omega
   . exact al.mk hR
theorem Fk:∀ (es:List Int) (n:Int),(∃ k,∃ hk:k < es.length,(es.take k).all (fun a=>decide (n < a))=true/\es[k] <= n)\/es.all (fun a=>decide (n < a))=true
 | [],n=>.inr rfl
 | a::es,n=>by
   by_cases ha:n < a
   . rcases Fk es n with ⟨k,hk,h1,h2⟩ | h
     . exact .inl ⟨k+1,by simp; omega,by simp [ha,h1],by simpa using h2⟩
     . exact .inr (by simp [ha,h])
   . exact .inl ⟨0,by simp,by simp,by simp; omega⟩
theorem O0 {v:AV} {bn:Nat} {es:List Int} {n:Int} (hv:pX au U v es) (hn:U.box bn=some [.int .i64 n]) (hl:es.length <= 100000) (hE:dm au U) (Pv:∀ b,au.live b=none->v=.ms b 0 es.length 1 3->bn ≠ b)
 (h:∀ ad v',pX au ad v' (es.filter (n < ·))->dm au ad->(∀ b x,(∀ k,v ≠ .ms b 0 k 1 3)->U.box b=some x->ad.box b=some x)->(∀ b k,v'=.ms b 0 k 1 3->v=.ms b 0 es.length 1 3)->R (.ret v') ad):ae K 132 [v,.func (.func 133) [] [.box bn 0]] U R:=by
 refine Rz ?_
 unfold Ry
 rcases hv with ⟨rfl,rfl⟩ | ⟨b,lL,rfl,hb,Bg⟩
 ·
  have afb:ae K 210 [.aq,.func (.func 133) [] [.box bn 0]] U (ag (fun v10 U =>
   (aw .eql (BT.mk false false false none false) true v10 (AV.int .i64 (-1))).wp K U (fun v12 U=>av v12 (al R .aq U) False) (aa R)) (aa R)):=by
   refine Gq ?_
   unfold JD
   simp only [len_nil,aj]
   refine ⟨fun m v0 v1 v7 v8 ad=>v7=.int .i64 0/\v8=.int .i64 0/\ad=U,⟨0,rfl,rfl,rfl⟩,?_⟩
   rintro m v0 v1 v7 v8 ad ⟨rfl,rfl,rfl⟩
   simp only [cq,aj,show decide ((0:Int) < 0)=false from rfl,bp]
   refine al.mk ?_
   simp only [bE,bu,aj,dZ,bG]
   exact al.mk (h ad .aq (.inl ⟨rfl,rfl⟩) hE (fun _ _ _ h=>h) (fun _ _ e=>by cases e))
  refine afb.mono fun r ad hr=>?_
  cases r with
  | panic x=>exact hr
  | ret x =>
    simp only [bE] at hr ⊢
    refine aC.wp_mono (fun v U hv=>?_) _ hr
    cases v <;> simp only [av] at hv ⊢
    exact ⟨hv.1,fun e=>(hv.2 e).elim⟩
 . have Lk:bn ≠ b:=Pv b Bg rfl
   rcases Fk es n with ⟨k,hk,qO,gz⟩ | cm
   . refine FE hb hn hl (.inl ⟨k,hk,qO,⟨hk,gz⟩,?_⟩)
     have hkn:¬ ((k:Nat):Int)=-1:=by omega
     simp only [bE,bu,aj,hkn,eX,bp,dO]
     refine ⟨bK (by omega) (by omega),?_⟩
     have Wt:(es.take (k+1)).filter (n < ·)=es.take k:=by
      rw [sx,pU hk,List.filter_append]
      have h1:(es.take k).filter (n < ·)=es.take k:=by
       rw [List.filter_eq_self]
       intro a ha
       rw [fe] at qO
       exact qO a ha
      rw [h1]
      have:¬ n < es[k]:=by omega
      simp [this]
     refine ⟨fun m v0 v1 v5 v6 ad=>∃ (i j:Nat) (arr:List AV),m=es.length - j/\v0=.ms b 0 es.length 1 3/\v1=.func (.func 133) [] [.box bn 0]/\v5=.int .i64 (i:Nat)/\v6=.int .i64 (j:Nat)/\j <= es.length/\i < j/\ad.box b=some arr/\arr.take i=((es.take j).filter (n < ·)).map (.int .i64)/\i=((es.take j).filter (n < ·)).length/\arr.drop j=(es.drop j).map (.int .i64)++lL/\arr.length=es.length+lL.length/\(∀ c,c ≠ b->ad.live c=U.live c),
      ⟨_,k,k+1,es.map (.int .i64)++lL,rfl,rfl,rfl,rfl,by simp,by omega,by omega,hb,?_,?_,?_,by simp,fun _ _=>rfl⟩,?_⟩
     . rw [Wt,List.take_append_of_le_length (by simp; omega),<- List.map_take]
     . rw [Wt]; simp; omega
     . rw [List.drop_append_of_le_length (by simp; omega),<- List.map_drop]
     . rintro m v0 v1 v5 v6 ad ⟨i,j,arr,rfl,rfl,rfl,rfl,rfl,hj,fR,fC,Wo,ha2,ha3,ha4,o6⟩
       simp only [IZ,aj,cq,ca]
       refine ⟨fun aQ=>?_,fun lI=>?_⟩
       . have aQ:j < es.length:=by omega
         intro jj Bm
         have Fv:ad.box bn=some [.int .i64 n]:=by rw [dD (o6 bn Lk)]; exact hn
         rw [DZ]
         refine ⟨⟨by omega,by omega,rfl⟩,?_⟩
         rw [gM fC]
         obtain ⟨rr,hd⟩:∃ rr,arr.drop (0+(j:Int).toNat * 1)=.int .i64 es[j]::rr:=by
          rw [jH,Nat.mul_one,df,ha3,ib aQ,eh]
          exact ⟨_,rfl⟩
         rw [hd,bC]
         simp only [jk,show fw K.P 133=true by kernel_rfl,if_true,lR,jY,gE]
         refine W0 Fv ?_
         have pN:es.take (j+1)=es.take j++[es[j]]:=by rw [sx,pU aQ]; rfl
         have Bj:arr.drop (j+1)=(es.drop (j+1)).map (.int .i64)++lL:=by
          rw [<- List.drop_drop,ha3,ib aQ,eh]; rfl
         simp only [bE,eI,aj]
         by_cases hle:es[j] <= n
         . simp only [hle,dZ,du,bp]
           refine Bm _ _ _ _ _ ?_
           simp only [dO]
           refine ⟨bK (by omega) (by omega),es.length - (j+1),by omega,i,j+1,arr,rfl,rfl,rfl,rfl,by simp,by omega,by omega,fC,?_,?_,Bj,ha4,o6⟩
           . rw [pN,List.filter_append,Wo]
             have:¬ n < es[j]:=by omega
             simp [this]
           . rw [pN,List.filter_append]
             have:¬ n < es[j]:=by omega
             simp only [List.filter_cons,this,eX,bQ,if_false,List.filter_nil,gD]
             exact ha2
         . simp only [hle,eX,fD,bG]
           rw [DZ]
           refine ⟨⟨by omega,by omega,rfl⟩,?_⟩
           rw [dk fC]
           refine ⟨⟨rfl,rfl,by simp; omega⟩,?_⟩
           rw [dO]
           refine ⟨bK (by omega) (by omega),?_⟩
           refine Bm _ _ _ _ _ ?_
           simp only [dO]
           have Bt:aA arr (0+(i:Int).toNat * 1) (ax (.int .i64 es[j]))=arr.take i++[.int .i64 es[j]]++arr.drop (i+1):=by
            simp [aA]
           have Ip:(arr.take i).length=i:=by simp; omega
           refine ⟨bK (by omega) (by omega),es.length - (j+1),by omega,i+1,j+1,_,rfl,rfl,rfl,by simp,by simp,by omega,by omega,a7,?_,?_,?_,?_,fun c hc=>by rw [dQ,if_neg hc]; exact o6 c hc⟩
           . rw [Bt,List.take_append_of_le_length (by simp; omega),qD (by simp; omega),Wo,pN,List.filter_append]
             have:n < es[j]:=by omega
             simp [this]
           . rw [pN,List.filter_append]
             have:n < es[j]:=by omega
             simp only [List.filter_cons,this,dZ,if_true,List.filter_nil,cM,fm,ko]
             omega
           . rw [Bt,<- Bj]
             rw [List.drop_append,List.drop_eq_nil_of_le (by simp; omega),jY,List.drop_drop]
             congr 1
             simp
             omega
           . rw [Bt]; simp; omega
       . have hje:j=es.length:=by omega
         subst hje
         rw [tq] at Wo ha2
         simp only [fI,ej,wp_cond,aj]
         refine ⟨⟨by omega,by omega,by omega,by omega,trivial⟩,?_⟩
         simp only [CK,fC,wp_cond,mF]
         refine ⟨⟨trivial,by simp; omega⟩,⟨by omega,by omega,by omega,by simp,trivial⟩,?_⟩
         refine al.mk (h _ _ (.inr ⟨b,(aA arr (0+(i:Int).toNat * 1) (bO ((es.length:Int).toNat - (i:Int).toNat) [.int .i64 0])).drop i,?_,?_,Bg⟩) ?_ ?_ ?_)
         . simp [ha2]
         . rw [a7]
           congr 1
           have hz:(bO (es.length - i) [AV.int .i64 0]).length=es.length - i:=by simp [mf]
           simp only [jH,Nat.mul_one,df]
           conv=>lhs; rw [<- List.take_append_drop i (aA arr i _)]
           congr 1
           simp only [aA,gi]
           rw [List.take_append_of_le_length (by simp; omega),qD (by simp; omega)]
           exact Wo
         . refine dm.set (fun c x e=>?_) Bg
           by_cases hc:c=b
           . subst hc; rw [Bg] at e; cases e
           . rw [o6 c hc]; exact hE c x e
         . intro c x hc hx
           have hcb:c ≠ b:=fun e=>hc es.length (by rw [e])
           rw [aY hcb,dD (o6 c hcb)]; exact hx
         . intro c k e
           simp only [AV.ms.injEq] at e
           rw [e.1]
   . refine FE hb hn hl (.inr ⟨cm,?_⟩)
     simp only [bE,bu,aj,dZ,bG]
     have hf:es.filter (n < ·)=es:=by
      rw [List.filter_eq_self]
      intro a ha
      rw [fe] at cm
      exact cm a ha
     exact al.mk (h U _ (by rw [hf]; exact .inr ⟨b,lL,rfl,hb,Bg⟩) hE (fun _ _ _ h=>h) (fun b' k e=>by cases e; rfl))
end
end Go.Rip
namespace Go.Rip
open Go.Proofs Go.RowKit
section
variable {au U:St} {R:cY->St->Prop} {K':AV->St->Prop} {Kp:AV->St->Prop} {v:AV} {es:List Int}
theorem TW (h:pX au U v es):cE (some false) v=.val (.int .i64 es.length):=by
 rcases h with ⟨rfl,rfl⟩ | ⟨b,lL,rfl,_,_⟩ <;> rfl
theorem TV {bx:Nat} {a:Int} (hv:pX au U v es) (hy:U.box bx=some [.int .i64 a]) (E:dm au U) (hl:es.length <= 100000) (h:∀ ad v',pX au ad v' (es++[a])->dm au ad->K' v' ad) :
 (eR (some (3,1)) true v (.ms bx 0 1 1 3) U).wp K U K' Kp:=by
 have No:rI U (.ms bx 0 1 1 3)=some (1,[.int .i64 a]):=by simp [rI,hy]
 rcases hv with ⟨rfl,rfl⟩ | ⟨b,lL,rfl,hb,Bg⟩
 . simp only [eR,No,wp_cond]
   refine ⟨rfl,by omega,fun b hf=>?_⟩
   exact h _ _ (.inr ⟨b,[],rfl,by rw [show U.th none=U from rfl]; exact aK,E.fresh hf.1⟩) (E.new hf)
 . refine Tv hb No ⟨rfl,by simp,by omega⟩ fun b' hf=>?_
   refine h _ _ (.inr ⟨b',[],by simp,?_,?_⟩) ((E.del Bg).new hf)
   . rw [aK]; simp
   . have hd:=hf.1
     by_cases e:b'=b
     . rw [e]; exact Bg
     . rw [kJ,if_neg e] at hd; exact E.fresh hd
end
theorem CS {v:AV} {l:List Nd} (hv:eP v l.length (cF l)) (hc:closed v=true) (hl:l.length <= 100000) (h0:l ≠ []) (hs:∀ x ∈ l,0 <= x.size/\x.size <= 100000) (wP:lX l <= l.length):Pure K 69 [.agg [v]] (.bool (jt l)):=by
 refine Pure.of (by simp [cT,closed,hc]) rfl (fun U=>rfl) fun R hR=>?_
 refine Vw ?_
 unfold Xu
 rw [hU rfl]
 intro b1 jM
 have m1:((bV ⟨.e,0⟩).new b1 (.box (ax (.agg [v])))).box b1=some [v]:=aK
 generalize (bV _).new b1 _=au at *
 clear jM
 simp only [aZ,aj,df]
 rw [gM m1,eD,bC,hv.len,aj]
 refine ⟨fun m v1 v2 v3 v8 v9 v10 ad=>∃ (i:Nat) (es:List Int),m=l.length - i/\v1=.box b1 0/\v2=.bool false/\v8=v/\v9=.int .i64 l.length/\v10=.int .i64 (i:Nat)/\i <= l.length/\pX au ad v3 es/\es.length <= i/\iu (l.drop i) i es=iu l 0 []/\dm au ad,
  ⟨_,0,[],rfl,rfl,rfl,rfl,rfl,rfl,by omega,.inl ⟨rfl,rfl⟩,by simp,rfl,dm.refl _⟩,?_⟩
 rintro m v1 v2 v3 v8 v9 v10 aR ⟨i,es,rfl,rfl,rfl,rfl,rfl,rfl,hi,zu,hel,hg,E1⟩
 simp only [cq,aj,ca]
 refine ⟨fun aQ=>?_,fun lI=>?_⟩
 . have aQ:i < l.length:=by omega
   obtain ⟨x,hx⟩:∃ x,l[i]?=some x:=⟨l[i],by simp [aQ]⟩
   have CY:l.drop i=x::l.drop (i+1):=by
    rw [ib aQ]
    have:=(dC.1 hx).2
    rw [this]
   rw [CY,iu] at hg
   refine EV hv hx fun r=>?_
   rw [uc]
   refine ⟨by simp [dY],?_⟩
   have H5:(dY x++r).take 6=dY x:=by simp [dY]
   rw [H5,cZ]
   intro b4 iw
   rw [cZ]
   intro b5 kQ
   have m4:(aR.new b4 (.box [.int .i64 0])).box b4=some [.int .i64 0]:=aK
   have BA:=kQ.bX m4
   have f4:=E1.fresh iw.1
   have E2:=E1.new iw (x:=.box [.int .i64 0])
   have Uy:pX au (aR.new b4 (.box [.int .i64 0])) v3 es/\(∀ b,v3=.ms b 0 es.length 1 3->b4 ≠ b):=by
    rcases zu with h | ⟨b,lL,rfl,h2,h3⟩
    . exact ⟨.inl h,fun b e=>by rw [h.2] at e; cases e⟩
    . have:=iw.bX h2
      exact ⟨.inr ⟨b,lL,rfl,by rw [pB this]; exact h2,h3⟩,fun b' e=>by cases e; exact this.symm⟩
   obtain ⟨Uy,UD⟩:=Uy
   clear zu
   generalize aR.new b4 (.box [.int .i64 0])=bh at *
   have m5:(bh.new b5 (.box [AV.int .u8 0,AV.str [],AV.int .i64 0,AV.int .i64 0,AV.int .i64 0,AV.int .i64 0])).box b5=some [AV.int .u8 0,AV.str [],AV.int .i64 0,AV.int .i64 0,AV.int .i64 0,AV.int .i64 0]:=aK
   have f5:=E2.fresh kQ.1
   have E3:=E2.new kQ (x:=.box [AV.int .u8 0,AV.str [],AV.int .i64 0,AV.int .i64 0,AV.int .i64 0,AV.int .i64 0])
   have m4':=(bB kQ (x:=.box [AV.int .u8 0,AV.str [],AV.int .i64 0,AV.int .i64 0,AV.int .i64 0,AV.int .i64 0])).bg m4
   have Uz:pX au (bh.new b5 (.box [AV.int .u8 0,AV.str [],AV.int .i64 0,AV.int .i64 0,AV.int .i64 0,AV.int .i64 0])) v3 es/\(∀ b,v3=.ms b 0 es.length 1 3->b5 ≠ b):=by
    rcases Uy with h | ⟨b,lL,rfl,h2,h3⟩
    . exact ⟨.inl h,fun b e=>by rw [h.2] at e; cases e⟩
    . have:=kQ.bX h2
      exact ⟨.inr ⟨b,lL,rfl,by rw [pB this]; exact h2,h3⟩,fun b' e=>by cases e; exact this.symm⟩
   obtain ⟨Uz,abv⟩:=Uz
   generalize bh.new b5 (.box [AV.int .u8 0,AV.str [],AV.int .i64 0,AV.int .i64 0,AV.int .i64 0,AV.int .i64 0])=bW at *
   rw [dk m4']
   refine ⟨⟨rfl,rfl,by simp⟩,?_⟩
   rw [dk (show (bW.set b4 _).box b5=some _ by rw [aY BA.symm]; exact m5)]
   refine ⟨⟨rfl,rfl,by simp [dY]⟩,?_⟩
   have E4:=(E3.set f4 (x:=.box (aA [.int .i64 0] 0 (ax (.int .i64 (i:Nat)))))).set f5 (x:=.box (aA [AV.int .u8 0,AV.str [],AV.int .i64 0,AV.int .i64 0,AV.int .i64 0,AV.int .i64 0] 0 (ax (.agg (dY x)))))
   have g4:((bW.set b4 (.box (aA [.int .i64 0] 0 (ax (.int .i64 (i:Nat)))))).set b5 (.box (aA [AV.int .u8 0,AV.str [],AV.int .i64 0,AV.int .i64 0,AV.int .i64 0,AV.int .i64 0] 0 (ax (.agg (dY x)))))).box b4=some [.int .i64 (i:Nat)]:=by
    rw [aY BA,a7]; rfl
   have g5:((bW.set b4 (.box (aA [.int .i64 0] 0 (ax (.int .i64 (i:Nat)))))).set b5 (.box (aA [AV.int .u8 0,AV.str [],AV.int .i64 0,AV.int .i64 0,AV.int .i64 0,AV.int .i64 0] 0 (ax (.agg (dY x)))))).box b5=some (dY x):=by
    rw [a7]; rfl
   have abj:pX au ((bW.set b4 (.box (aA [.int .i64 0] 0 (ax (.int .i64 (i:Nat)))))).set b5 (.box (aA [AV.int .u8 0,AV.str [],AV.int .i64 0,AV.int .i64 0,AV.int .i64 0,AV.int .i64 0] 0 (ax (.agg (dY x)))))) v3 es:=by
    rcases Uz with h | ⟨b,lL,rfl,h2,h3⟩
    . exact .inl h
    . exact .inr ⟨b,lL,rfl,by rw [aY (abv b rfl).symm,aY (UD b rfl).symm]; exact h2,h3⟩
   generalize (bW.set b4 (.box (aA [.int .i64 0] 0 (ax (.int .i64 (i:Nat)))))).set b5 (.box (aA [AV.int .u8 0,AV.str [],AV.int .i64 0,AV.int .i64 0,AV.int .i64 0,AV.int .i64 0] 0 (ax (.agg (dY x)))))=cN at *
   refine O0 abj g4 (by omega) E4 (fun b _ e=>UD b e) fun dv v' abk E5 hk5 _=>?_
   have rq:∀ b y,b4=b\/b5=b->cN.box b=some y->dv.box b=some y:=fun b y hb hy=>by
    refine hk5 b y (fun k e=>?_) hy
    rcases abj with h | ⟨b',lL,rfl,h2,h3⟩
    . rw [h.2] at e; cases e
    . simp only [AV.ms.injEq] at e
      rcases hb with rfl | rfl
      . exact UD b' rfl e.1.symm
      . exact abv b' rfl e.1.symm
   have g4':=rq b4 _ (.inl rfl) g4
   have g5':=rq b5 _ (.inr rfl) g5
   simp only [bE,TW abk,aj,eQ,ca]
   have Bk:(es.filter ((i:Int) < ·)).length <= es.length:=List.length_filter_le _ _
   refine ⟨fun wM=>?_,fun hle=>?_⟩
   . rw [if_pos (by omega)] at hg
     refine al.mk ?_
     have:jt l=true:=by simp [jt,<- hg]
     rw [this] at hR
     exact hR _
   . rw [if_neg (by omega)] at hg
     have hsx:=hs x (gr hx)
     rw [gM g4',eD,bC]
     simp only [aZ,aj,df]
     rw [gM g5']
     simp only [dY,List.drop,bC,dO]
     refine ⟨bK (by omega) (by omega),?_⟩
     rw [Am]
     refine ⟨by omega,?_⟩
     rw [eJ (o:=0) (s:=1) rfl]
     refine ⟨⟨rfl,rfl,by simp [bO]⟩,?_⟩
     rw [EU]
     refine ⟨rfl,fun bx yP=>?_⟩
     have afi:pX au (dv.new bx (.box (aA (bO 1 [AV.int .i64 0]) 0 (ax (.int .i64 ((i:Int)+x.size)))))) v' (es.filter ((i:Int) < ·)):=by
      rcases abk with h | ⟨b',lL,rfl,h2,h3⟩
      . exact .inl h
      . exact .inr ⟨b',lL,rfl,by rw [pB (yP.bX h2)]; exact h2,h3⟩
     refine TV afi (by rw [aK]; rfl) (E5.new yP) (by omega) fun jy v7 afj E7=>?_
     refine ⟨bK (by omega) (by omega),l.length - (i+1),by omega,i+1,_,rfl,rfl,rfl,rfl,rfl,by simp,by omega,afj,by simp; omega,hg,E7⟩
 . have hi:i=l.length:=by omega
   subst hi
   rw [List.drop_length] at hg
   have PA:iu l 0 []=false:=hg.symm
   have wM:jt l=decide (24 < (fl l (lX l) l.length 1).length):=by simp [jt,PA]
   rw [wM] at hR
   rw [cZ]
   intro b6 va
   have m6:(aR.new b6 (.box [.int .i64 0])).box b6=some [.int .i64 0]:=aK
   have m1':=(E1.new va (x:=.box [.int .i64 0])).bg m1
   have n16:=va.bX (E1.bg m1)
   generalize aR.new b6 (.box [.int .i64 0])=bh at *
   rw [dk m6]
   refine ⟨⟨rfl,rfl,by simp⟩,?_⟩
   have W1:(bh.set b6 (.box (aA [.int .i64 0] 0 (ax (.int .i64 0))))).box b6=some [.int .i64 (([]:List Nat).length:Nat)]:=by rw [a7]; rfl
   have afV:(bh.set b6 (.box (aA [.int .i64 0] 0 (ax (.int .i64 0))))).box b1=some [v8]:=by rw [aY n16]; exact m1'
   generalize bh.set b6 (.box (aA [.int .i64 0] 0 (ax (.int .i64 0))))=bW at *
   rw [pc afV]
   refine ⟨by simp,?_⟩
   refine pM [v8] (by simp [tg,hv.dh,aA]) ?_
   cases l with
   | nil=>exact absurd rfl h0
   | cons x0 l =>
   have hx0:=hs x0 (by simp)
   refine xZ (n:=0) (x:=x0) hv rfl (bK (by simp; omega) (by simp; omega)) fun bn be bt cN d1 d2 d3 f1 f2 f3 k1 k2 k3 e4=>?_
   have m6n:=e4.bg W1
   have en:(((0:Nat):Int)+x0.size)=lX (x0::l):=by simp [lX]
   rw [en] at k2
   have nn:bn ≠ b6:=fun e=>by rw [e] at f1; exact cD W1 f1
   have ne:be ≠ b6:=fun e=>by rw [e] at f2; exact cD W1 f2
   have nt:bt ≠ b6:=fun e=>by rw [e] at f3; exact cD W1 f3
   refine DD (fun ks U=>U.box b6=some [.int .i64 (ks.length:Nat)]/\U.box bn=some [.int .i64 ((0:Nat):Int)]/\U.box be=some [.int .i64 (lX (x0::l))]/\U.box bt=some [v8]/\True) (fun _=>False) hv (by simp) (by omega) wP
    (fun ks U h=>h.2.imp id fun h=>h.imp id fun h=>h.1) (fun ks U o L L' h hL=>?_) (fun ks U o L h ho=>?_) (fun _ _ _ _ h=>h.elim) (fun ks jD x dv o L1 q hI hx aQ oT hnk sV _ hL hn hr=>?_) (fun ks dv o L iE hI hL=>?_) (fun _ _ _ h=>h.elim) ⟨m6n,k1,k2,k3,trivial⟩
   . exact ⟨by rw [aY (bP h.1 hL)]; exact h.1,by rw [aY (bP h.2.1 hL)]; exact h.2.1,by rw [aY (bP h.2.2.1 hL)]; exact h.2.2.1,by rw [aY (bP h.2.2.2.1 hL)]; exact h.2.2.2.1,h.2.2.2.2⟩
   . have e:=bB ho (x:=.loop L)
     exact ⟨e.bg h.1,e.bg h.2.1,e.bg h.2.2.1,e.bg h.2.2.2.1,h.2.2.2.2⟩
   . obtain ⟨i1,i2,i3,i4,i5⟩:=hI
     rw [gM i1,eD,bC,dO]
     refine ⟨bK (by omega) (by omega),?_⟩
     rw [dk i1]
     refine ⟨⟨rfl,rfl,by simp⟩,?_⟩
     refine hn _ ⟨by rw [a7]; simp [aA],by rw [aY nn]; exact i2,by rw [aY ne]; exact i3,by rw [aY nt]; exact i4,trivial⟩ (hs x (gr hx)).2 (by rw [gq]; exact hL; rw [dQ,if_neg (bP i1 hL).symm])
   . obtain ⟨i1,i2,i3,i4,i5⟩:=hI
     have i1':(dv.del o).box b6=some [.int .i64 (ks.length:Nat)]:=by rw [jr (bP i1 hL)]; exact i1
     show (ak (some (false,1)) (.box b6 0) (dv.del o)).wp K (dv.del o) _ _
     rw [gM i1',eD,bC]
     simp only [eQ,aj]
     subst iE
     refine al.mk ?_
     have:=hR (dv.del o)
     have e:decide ((24:Int) < ((fl (x0::l) (lX (x0::l)) (x0::l).length (0+1)).length:Nat))=decide (24 < (fl (x0::l) (lX (x0::l)) (x0::l).length 1).length):=by
      rw [pW]; simp only [ee,df]; omega
     rw [e]; exact this
end Go.Rip
namespace Go.Rip
open Go.Proofs Go.RowKit
theorem mB {U:St} {a b:Nat} {l:List AV} (h:b ≠ a):(U.bZ a l).live b=U.live b:=by
 simp [St.bZ,St.set,h]
theorem lj.bZ {r:Nat} {U ad:St} {b:Nat} {l:List AV} (h:lj r U ad) (n:U.live b=none):lj r U (ad.bZ b l):=fun c y m e=>by
 by_cases hc:c=b
 . subst hc; rw [n] at e; cases e
 . rw [mB hc]; exact h c y m e
theorem eE.scalar {a:AV} {ns:List Nd} (hk:eE false [a] ns):a.scalar=true:=by
 generalize hb:false=b at hk
 generalize hl:[a]=la at hk
 cases hk with
 | mk _ _=>cases hl; rfl
 | nil=>cases hl
 | cons _ _=>cases hb
section
variable {X:Rx} {r i:Nat} {U:St} {R:cY->St->Prop}
theorem Og (hr:U.box r=some (rd X i)) (hi:i <= X.L.length) (h1:∀ ns j a ad,lU X.L X.E (fuel X.L) i=.ok ns j->j <= X.L.length->i < j->eE false [a] ns->gT r (rd X j) U ad->R (.ret (.aH [a,.int .i64 0,.bool true])) ad)
 (h2:∀ j ad,lU X.L X.E (fuel X.L) i=.bad j->i <= j->j <= X.L.length->gT r (rd X j) U ad->R (.ret (.aH [.aW,.int .i64 (dc X.L X.E j),.bool false])) ad):ae K 54 [.box r 0,.func (.func 55) [.box r 0] []] U R:=by
 refine Cw _ _ _ _ _ _ (by kernel_rfl) fun a b c ha hb hc=>?_
 have na:=ha.bX hr
 have fa:U.live a=none:=ha.1
 have e1:=bB ha (x:=.box [.aW])
 have ka:(U.new a (.box [.aW])).box a=some [.aW]:=aK
 generalize U.new a (.box [.aW])=aR at *
 have nb:=hb.bX (e1.bg hr)
 have nab:=hb.bX ka
 have fb:U.live b=none:=e1.fresh hb.1
 have e2:=bB hb (x:=.box [.int .i64 0])
 have kb:(aR.new b (.box [.int .i64 0])).box b=some [.int .i64 0]:=aK
 have ka2:=e2.bg ka
 generalize aR.new b (.box [.int .i64 0])=bh at *
 have nc:=hc.bX ((e1.trans e2).bg hr)
 have nac:=hc.bX ka2
 have nbc:=hc.bX kb
 have fc:U.live c=none:=(e1.trans e2).fresh hc.1
 have e3:=bB hc (x:=.box [.bool false])
 have kc:(bh.new c (.box [.bool false])).box c=some [.bool false]:=aK
 have ka3:=e3.bg ka2
 have kb3:=e3.bg kb
 have e13:=e1.trans (e2.trans e3)
 have yU:=e13.bg hr
 generalize bh.new c (.box [.bool false])=bW at *
 have hg:=Db (L:=X.L) (E:=X.E) hi
 refine UN X hi r bW _ yU ⟨fun ns j e hj v ad hk A=>?_,fun j e ad A=>?_⟩
 . rw [e] at hg
   refine ⟨hk.scalar,⟨_,A.ex.bg na.symm ka3⟩,⟨_,A.ex.bg nb.symm kb3⟩,⟨_,A.ex.bg nc.symm kc⟩,?_⟩
   refine h1 ns j v _ e hj hg.1 hk ⟨?_,(((e13.HN.trans A.ex).bZ fa).bZ fb).bZ fc⟩
   rw [dD (mB nc),dD (mB nb),dD (mB na)]
   exact A.box
 . rw [e] at hg
   refine ⟨_,rfl,⟨_,A.ex.bg na.symm ka3⟩,⟨_,A.ex.bg nb.symm kb3⟩,⟨_,A.ex.bg nc.symm kc⟩,fun q hq=>?_⟩
   have hqr:=hq.bX A.box
   refine h2 j _ e hg.1 hg.2 ⟨?_,((((e13.HN.trans A.ex).new hq).bZ fa).bZ fb).bZ fc⟩
   rw [dD (mB nc),dD (mB nb),dD (mB na),pB hqr]
   exact A.box
end
def mO (l:List Nd):AV:=if l=[] then .aq else .vec l.length .jc (cF l)
def kU (l:List Nd):List Nd × Int:=if 900 < (node 1 [] 0 0 0 l).length\/jt (node 1 [] 0 0 0 l)=true then ([],5) else (node 1 [] 0 0 0 l,0)
theorem eE.aei:∀ {b:Bool} {ks:List AV} {l:List Nd},eE b ks l->∀ x ∈ l,1 <= x.size/\x.size <= l.length:=by
 intro b ks l h
 induction h with
 | mk h1 h2 ih =>
   intro x hx
   simp only [node,cJ] at hx
   rw [bU]
   rcases hx with rfl | hx
   . simp; omega
   . have:=ih x hx; omega
 | nil=>intro x hx; cases hx
 | cons h1 h2 i1 i2 =>
   intro x hx
   simp only [gu] at hx
   rw [cM]
   rcases hx with hx | hx
   . have:=i1 x hx; omega
   . have:=i2 x hx; omega
theorem V9 {U:St} {R:cY->St->Prop} {v:AV} {ks:List AV} {l:List Nd} (hv:ks=[]/\v=.aq\/∃ c,v=.vec ks.length c ks) (hk:eE true ks l) (hl:l.length <= 90000)
 (h:∀ ad,dm U ad->R (.ret (.aH [.agg [mO (kU l).1],.int .i64 (kU l).2])) ad):ae K 56 [v] U R:=by
 refine Vr ?_
 unfold Xp
 rw [cZ]
 intro b2 iW
 have m2:(U.new b2 (.box [.aq])).box b2=some [.aq]:=aK
 have e1:=bB iW (x:=.box [.aq])
 have f2:=iW.1
 generalize U.new b2 (.box [.aq])=aR at *
 have o6:v.dh=true/\ax v=[v]:=by
  rcases hv with ⟨_,rfl⟩ | ⟨c,rfl⟩ <;> exact ⟨rfl,rfl⟩
 refine pM [.int .u8 1,.str [],.int .i64 0,.int .i64 0,.int .i64 0,.int .i64 0] rfl ?_
 refine pM (mw 1 [] 0 0 0 v) (by simp [tg,o6,aA,mw]) ?_
 rw [hU rfl]
 intro b9 Ib
 have m9:(aR.new b9 (.box (ax (.agg (mw 1 [] 0 0 0 v))))).box b9=some (mw 1 [] 0 0 0 v):=aK
 have e2:=e1.new Ib (x:=.box (ax (.agg (mw 1 [] 0 0 0 v))))
 have m2':=(bB Ib (x:=.box (ax (.agg (mw 1 [] 0 0 0 v))))).bg m2
 generalize aR.new b9 (.box (ax (.agg (mw 1 [] 0 0 0 v))))=bh at *
 refine F8 (.inr ⟨b9,rfl,m9⟩) hk (by omega) (fun a l1 h1 h2=>F7 l.length a l1 h1 h2 (by omega)) hv fun bW e3=>?_
 have abF:=e3.bg m2'
 have E3:=e2.trans e3
 simp only [bE]
 have htv:∃ t,t=node 1 [] 0 0 0 l/\t.length=l.length+1:=⟨_,rfl,rfl⟩
 obtain ⟨t,ht,sX⟩:=htv
 rw [<- ht,<- sX]
 refine pM [.vec t.length .jc (cF t)] rfl ?_
 rw [cZ]
 intro b5 kQ
 have m5:(bW.new b5 (.box [.aq])).box b5=some [.aq]:=aK
 have n25:=kQ.bX abF
 have f5:=E3.fresh kQ.1
 have E4:=E3.new kQ (x:=.box [.aq])
 have m2n:=(bB kQ (x:=.box [.aq])).bg abF
 generalize bW.new b5 (.box [.aq])=cN at *
 rw [dk m5]
 refine ⟨⟨rfl,rfl,by simp⟩,?_⟩
 have g5:(cN.set b5 (.box (aA [.aq] 0 (ax (.agg [.vec t.length .jc (cF t)]))))).box b5=some [.vec t.length .jc (cF t)]:=by rw [a7]; rfl
 have g2:(cN.set b5 (.box (aA [.aq] 0 (ax (.agg [.vec t.length .jc (cF t)]))))).box b2=some [.aq]:=by rw [aY n25]; exact m2n
 have E5:=E4.set f5 (x:=.box (aA [.aq] 0 (ax (.agg [.vec t.length .jc (cF t)]))))
 generalize cN.set b5 (.box (aA [.aq] 0 (ax (.agg [.vec t.length .jc (cF t)]))))=dv at *
 simp only [aZ,aj,df]
 rw [gM g5,eD,bC]
 simp only [ua,aj,eQ,bj,aP]
 have cr:t ≠ []:=by rw [ht]; simp [node]
 have fh:∀ x ∈ t,0 <= x.size/\x.size <= 100000:=fun x hx=>by
  have Bn:eE false [.cQ (mw 1 [] 0 0 0 v)] t:=by rw [ht]; exact .mk hk hv
  have:=Bn.aei x hx
  omega
 have wP:lX t <= t.length:=by rw [ht]; simp [lX,node]
 have Yf:closed (.vec t.length .jc (cF t))=true:=by
  have:∀ l:List Nd,cT (cF l)=true:=fun l=>by
   induction l with
   | nil=>rfl
   | cons x l ih=>show cT (dY x++cF l)=true; simp [dY,cT,closed,ih]
  exact this t
 have hgp:=CS (.inr ⟨_,rfl⟩) Yf (by omega) cr fh wP
 have bad:(900 < t.length\/jt t=true)->(ek (some [(0,1)]) (some [AV.aq]) none []).wp K dv (fun v21 U=>(aI (some (true,1)) (.box b2 0) v21 U).wp K U (fun _ U=>bF (some (true,1)) (.box b2 0) U fun r0=>al R (AV.aH [r0,(AV.int .i64 5)]) U) (aa R)) (aa R):=fun hb=>by
  refine pM [.aq] rfl ?_
  rw [dk g2]
  refine ⟨⟨rfl,rfl,by simp⟩,?_⟩
  rw [vD a7]
  refine ⟨by simp [aA],?_⟩
  have hw:kU l=([],5):=by unfold kU; rw [<- ht,if_pos hb]
  rw [hw] at h
  exact al.eq (h _ (E5.set f2)) rfl
 have ae8:¬ (900 < t.length\/jt t=true)->(ak (some (true,1)) (.box b5 0) dv).wp K dv (fun eo U=>(aI (some (true,1)) (.box b2 0) eo U).wp K U (fun _ U=>bF (some (true,1)) (.box b2 0) U fun r0=>al R (AV.aH [r0,(AV.int .i64 0)]) U) (aa R)) (aa R):=fun hb=>by
  rw [pc g5]
  refine ⟨by simp,?_⟩
  rw [dk g2]
  refine ⟨⟨rfl,rfl,by simp⟩,?_⟩
  rw [vD a7]
  refine ⟨by simp [aA],?_⟩
  have hw:kU l=(t,0):=by unfold kU; rw [<- ht,if_neg hb]
  rw [hw] at h
  refine al.eq (h _ (E5.set f2)) ?_
  simp [aA,mO,cr]
 by_cases h9:900 < t.length
 . have h9':(900:Int) < t.length:=by omega
   simp only [h9',dZ,show (true == false)=false from rfl,cC,aM,if_true,aj,bG]
   exact bad (.inl h9)
 . have h9':¬ (900:Int) < t.length:=by omega
   simp only [h9',eX,iJ,cI,G9 g5,mA,z6,aM,bQ,if_false,aj]
   refine ⟨by simp,_,hgp,?_⟩
   cases hg:jt t with
   | true=>simp only [bG]; exact bad (.inr hg)
   | false=>simp only [bp]; exact ae8 (by rw [hg]; simp [h9])
end Go.Rip
