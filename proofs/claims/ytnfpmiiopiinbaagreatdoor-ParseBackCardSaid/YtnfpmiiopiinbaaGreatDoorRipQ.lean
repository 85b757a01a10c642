/- Lemmas for the proof: no conditions. -/
import Derived.Test.YtnfpmiiopiinbaaGreatDoorRipZz
import Derived.Test.YtnfpmiiopiinbaaGreatDoorRipO
import Derived.Test.YtnfpmiiopiinbaaGreatDoorRipP
import Derived.Test.YtnfpmiiopiinbaaGreatDoorRipI
import Derived.Test.YtnfpmiiopiinbaaGreatDoorRipK
set_option linter.unusedVariables false
set_option linter.unusedSimpArgs false
set_option linter.loopingSimpArgs false
namespace Go.Rip
open Go.Proofs Go.RowKit
def db (x:Nd):List AV:=[.int .u8 x.kind,.str x.text,.int .i64 x.n,.int .i64 x.m,.int .i64 x.at_,.int .i64 x.size]
def bK (l:List Nd):List AV:=l.flatMap db
theorem J9 (l l':List Nd):bK (l++l')=bK l++bK l':=by simp [bK]
theorem jU (L:List Nd):(bK L).length=6 * L.length:=by
 induction L with
 | nil=>rfl
 | cons t L ih =>
   have:(bK (t::L)).length=6+(bK L).length:=by simp [bK,db]; omega
   rw [this,ih,gU]; omega
theorem PI (L:List Nd) (i:Nat):(bK L).drop (i * 6)=bK (L.drop i):=by
 induction L generalizing i with
 | nil=>simp [bK]
 | cons t L ih =>
   cases i with
   | zero=>simp
   | succ i =>
     rw [Nat.add_mul,show i * 6+1 * 6=6+i * 6 by omega,<- List.drop_drop,List.drop_succ_cons,<- ih]
     rfl
theorem Ef {L:List Nd} {i:Nat} {t:Nd} (h:L[i]?=some t):∃ r,(bK L).drop (i * 6)=db t++r:=by
 rw [PI,gT (dx.1 h).1]
 refine ⟨bK (L.drop (i+1)),?_⟩
 have:=(dx.1 h).2
 simp [bK,this]
section
variable {C:cQ} {U:St} {K':AV->St->Prop} {Kp:AV->St->Prop} {e sz n b m:Nat} {L l2 z:List AV} {y:AV}
theorem vy {ps:List (Nat × AV)}:(ar (some (e,sz)) (some z) n true ps).wp C U K' Kp=(n * sz <= 16777216/\(gu (fun i=>some (i * sz,sz)) ps (bN n z) fun cs=>.cond (cs.length=n * sz) (.pD n sz e none cs)).wp C U K' Kp):=by
 simp only [ar,if_true]; rfl
theorem AS {pl:Nat->Option (Nat × Nat)} {k:Nat}:(gu pl [] L fun cs=>.cond (cs.length=k) (.pD n sz e none cs)).wp C U K' Kp=(L.length=k/\∀ b,U.dD b->K' (.ms b 0 n sz e) (U.new b (.box L))):=rfl
theorem Jz {mu:Bool} (hb:U.box b=some L) (hy:rJ U y=some (m,l2)) (h:l2.length=m * sz/\n * sz <= L.length/\n+m <= 4294967296) (hk:∀ b',(U.del b).dD b'->K' (.ms b' 0 (n+m) sz e) ((U.del b).new b' (.box (L.take (n * sz)++l2)))):(eH (some (e,sz)) mu (.ms b 0 n sz e) y U).wp C U K' Kp:=by
 simp only [eH,hy,hb,wp_cond]
 exact ⟨h.1,⟨trivial,trivial,trivial,h.2.1,h.2.2⟩,hk⟩
end
def Ptr (U:St) (p:AV) (cs:List AV):Prop:=p=.cN cs\/∃ b,p=.box b 0/\U.box b=some cs
def DP (a:AV) (l:List Nd):Prop:=∀ (U:St) (R:cR->St->Prop),(∀ ad,cW U ad->R (.ret (.vec l.length .iE (bK l))) ad)->ae K 110 [a] U R
theorem eA.split {ks:List AV} {l:List Nd} {a:AV} {i:Nat} (h:eA true (ks.drop i) l) (ha:ks[i]?=some a):∃ l1 l2,l=l1++l2/\eA false [a] l1/\eA true (ks.drop (i+1)) l2:=by
 obtain ⟨aQ,rfl⟩:=dx.1 ha
 rw [gT aQ] at h
 generalize hb:true=b at h
 generalize hl:ks[i]::ks.drop (i+1)=la at h
 cases h with
 | mk _ _=>cases hb
 | nil=>cases hl
 | cons h1 h2=>cases hl; exact ⟨_,_,rfl,h1,h2⟩
theorem eA.Yk {l:List Nd} (h:eA true [] l):l=[]:=by
 generalize hb:true=b at h
 generalize hl:([]:List AV)=la at h
 cases h with
 | mk _ _=>cases hb
 | nil=>rfl
 | cons _ _=>cases hl
theorem eA.le:∀ {ks:List AV} {l:List Nd},eA true ks l->ks.length <= l.length
 | [],_,_=>by simp
 | a::ks,l,h=>by
   obtain ⟨l1,l2,rfl,h1,h2⟩:=eA.split (ks:=a::ks) (a:=a) (i:=0) h rfl
   obtain ⟨x,r,e,_⟩:=h1.size
   have:=eA.le (ks:=ks) h2
   rw [e]; simp; omega
theorem De {aq U:St} {R:cR->St->Prop} {ks:List AV} {l:List Nd} {b:Nat} {kind:Int} {text:aK} {n m at_:Int} {kv:AV} (hk:eA true ks l) (hl:l.length <= 100000) (VR:∀ a l1,eA false [a] l1->l1.length <= l.length->DP a l1)
 (Bk:ks=[]/\kv=.ah\/∃ c,kv=.vec ks.length c ks) (hb:U.box b=some [.int .u8 kind,.str text,.int .i64 n,.int .i64 m,.int .i64 at_,.int .i64 0]) (hn:aq.live b=none) (hE:cW aq U)
 (h:∀ ad,cW aq ad->R (.ret (.vec (l.length+1) .iE (bK (node kind text n m at_ l)))) ad) :
 (cw (some false) kv).wp K U (fun bZ U =>
 eW 4 [.ms b 0 1 6 43,kv,bZ,(AV.int .i64 0)] U fun lp v3 rN ym cO U =>
  (ax .lss (BT.mk false false false none false) false cO ym).wp K U (fun dv U =>
  aw dv (
   (aL (some (87,1)) none rN cO).wp K U (fun cu U =>
   (aj (some (false,1)) cu U).wp K U (fun da U =>
   ae K 110 [da] U (ag (fun dL U =>
   (eH (some (43,6)) true v3 dL U).wp K U (fun dZ U =>
   (ax .add (BT.mk false false false none false) true cO (AV.int .i64 1)).wp K U (fun v24 U =>
   lp dZ rN ym v24 U) (aa R)) (aa R)) (aa R))) (aa R)) (aa R)) (
   (cw (some false) v3).wp K U (fun dW U =>
   (aL (some (43,6)) none v3 (AV.int .i64 0)).wp K U (fun v28 U =>
   (af (some 5) v28).wp K U (fun ej U =>
   (aF (some (false,1)) ej dW U).wp K U (fun _ U =>
   ak R v3 U) (aa R)) (aa R)) (aa R)) (aa R))) (aa R)) (aa R):=by
 have hlen:cw (some false) kv=.val (.int .i64 ks.length):=by
  rcases Bk with ⟨rfl,rfl⟩ | ⟨c,rfl⟩ <;> rfl
 rw [hlen,al]
 refine ⟨fun mm v3 ct bZ cO ad=>∃ (i b':Nat) (acc rest:List Nd),mm=ks.length - i/\i <= ks.length/\v3=.ms b' 0 (acc.length+1) 6 43/\ct=kv/\bZ=.int .i64 ks.length/\cO=.int .i64 (i:Nat)/\l=acc++rest/\eA true (ks.drop i) rest/\ad.box b'=some ([.int .u8 kind,.str text,.int .i64 n,.int .i64 m,.int .i64 at_,.int .i64 0]++bK acc)/\aq.live b'=none/\cW aq ad,
  ⟨_,0,b,[],l,rfl,by omega,rfl,rfl,rfl,rfl,rfl,hk,by simpa [bK] using hb,hn,hE⟩,?_⟩
 rintro mm v3 ct bZ cO aR ⟨i,b',acc,rest,rfl,hi,rfl,rfl,rfl,rfl,u3,KV,ff,Fh,hE'⟩
 have iC:ks.length <= l.length:=hk.le
 simp only [cb,al,bY]
 refine ⟨fun aQ=>?_,fun kn=>?_⟩
 . have aQ:i < ks.length:=by omega
   rcases Bk with ⟨rfl,_⟩ | ⟨c,rfl⟩
   . simp at aQ
   rw [Cq]
   refine ⟨by omega,?_⟩
   have hd:ks.drop ((i:Int).toNat * 1)=ks[i]::ks.drop (i+1):=by rw [iZ,Nat.mul_one]; exact gT aQ
   rw [hd,ox,bA]
   obtain ⟨l1,l2,CV,h1,h2⟩:=KV.split (a:=ks[i]) (by simp [aQ])
   have adF:l1.length <= l.length:=by rw [u3,CV]; simp; omega
   refine VR _ l1 h1 adF aR _ fun a7 e2=>?_
   simp only [bB]
   have Ua:acc.length+l1.length <= l.length:=by rw [u3,CV]; simp
   refine Jz (sz:=6) (m:=l1.length) (l2:=bK l1) (e2.aX ff) rfl ⟨by rw [jU]; omega,by simp [jU]; omega,by omega⟩ fun b2 hf=>?_
   rw [dN]
   refine ⟨bI (by omega) (by omega),ks.length - (i+1),by omega,i+1,b2,acc++l1,l2,rfl,aQ,?_,rfl,rfl,by simp,by rw [u3,CV]; simp,h2,?_,?_,?_⟩
   . simp; omega
   . rw [aG,J9]
     have:(acc.length+1) * 6=([AV.int .u8 kind,.str text,.int .i64 n,.int .i64 m,.int .i64 at_,.int .i64 0]++bK acc).length:=by simp [jU]; omega
     rw [this,tn,gn]
   . have sT:((a7.del b').live b2)=none:=hf.1
     by_cases Fc:b2=b'
     . rw [Fc]; exact Fh
     . rw [kF,if_neg Fc] at sT
       exact (hE'.trans e2).fresh sT
   . exact ((hE'.trans e2).del Fh).new hf
 . have hi:i=ks.length:=by omega
   subst hi
   rw [List.drop_length] at KV
   have:=KV.Yk
   subst this
   rw [gy] at u3
   subst u3
   simp only [Iv,al]
   rw [AT]
   refine ⟨⟨by omega,by omega,rfl⟩,?_⟩
   simp only [aZ,al,cU,show (0:Int).toNat * 6=0 from rfl]
   rw [cI ff]
   refine ⟨⟨rfl,rfl,by simp⟩,?_⟩
   refine ⟨_,_,mS.TK (aV),?_⟩
   have:=h ((aR.set b' (.box (ay ([.int .u8 kind,.str text,.int .i64 n,.int .i64 m,.int .i64 at_,.int .i64 0]++bK l) 5 (au (.int .i64 ((l.length+1:Nat):Int)))))).del b') ((hE'.set Fh).del Fh)
   have e:ay ([.int .u8 kind,.str text,.int .i64 n,.int .i64 m,.int .i64 at_,.int .i64 0]++bK l) 5 (au (.int .i64 ((l.length+1:Nat):Int)))=bK (node kind text n m at_ l):=by
    simp [ay,node,bK,db]
   rw [e] at this ⊢
   exact this
theorem FR {U:St} {R:cR->St->Prop} {p:AV} {ks:List AV} {l:List Nd} {kind:Int} {text:aK} {n m at_:Int} {kv:AV} (hp:Ptr U p (mf kind text n m at_ kv)) (hk:eA true ks l) (hl:l.length <= 100000) (VR:∀ a l1,eA false [a] l1->l1.length <= l.length->DP a l1)
 (Bk:ks=[]/\kv=.ah\/∃ c,kv=.vec ks.length c ks) (h:∀ ad,cW U ad->R (.ret (.vec (l.length+1) .iE (bK (node kind text n m at_ l)))) ad):ae K 110 [p] U R:=by
 refine QE ?_
 unfold QD
 rcases hp with rfl | ⟨b,rfl,hb⟩
 . simp only [yQ,al,dJ,eD]
   rw [tZ]
   refine ⟨by simp [mf],?_⟩
   rw [vy]
   refine ⟨by omega,?_⟩
   rw [eG (o:=0) (s:=6) rfl]
   refine ⟨⟨rfl,by simp [mf],by simp [bN]⟩,?_⟩
   rw [AS]
   refine ⟨rfl,fun b hf=>?_⟩
   simp only [mf,List.drop,ox,bA]
   exact De hk hl VR Bk (aG) hf.1 ((cW.refl U).new hf) h
 . simp only [bS,al,aZ,cU]
   rw [o5 hb]
   refine ⟨by simp [mf],?_⟩
   rw [vy]
   refine ⟨by omega,?_⟩
   rw [eG (o:=0) (s:=6) rfl]
   refine ⟨⟨rfl,by simp [mf],by simp [bN]⟩,?_⟩
   rw [AS]
   refine ⟨rfl,fun b2 hf=>?_⟩
   rw [gz ((bg hf).aX hb)]
   simp only [mf,List.drop,bA]
   exact De hk hl VR Bk (aG) hf.1 ((cW.refl U).new hf) h
theorem FQ:∀ (N:Nat) (a:AV) (l:List Nd),eA false [a] l->l.length <= N->N <= 100000->DP a l
 | 0,a,l,h,hl,_=>by
   obtain ⟨x,r,e,_⟩:=h.size
   rw [e] at hl; simp at hl
 | N+1,a,l,h,hl,hN=>by
   generalize hb:false=b at h
   generalize ha:[a]=la at h
   cases h with
   | nil=>cases ha
   | cons _ _=>cases hb
   | mk h1 h2 =>
     cases ha
     rw [bW] at hl
     intro U R hR
     exact FR (.inl rfl) h1 (by omega) (fun a l1 hk Fg=>FQ N a l1 hk (by omega) (by omega)) h2 hR
end Go.Rip
namespace Go.Rip
open Go.Proofs Go.RowKit
theorem eJ.atN {v:AV} {l:List Nd} (h:eJ v l.length (bK l)) {i:Nat} {x:Nd} (hx:l[i]?=some x) {e:Nat}:∃ r,aL (some (e,6)) none v (.int .i64 (i:Int))=.cond (0 <= (i:Int)/\(i:Int) < l.length) (.val (.cN (db x++r))):=by
 obtain ⟨c,rfl,tw⟩:=h.at (sz:=6) (e:=e) (dx.1 hx).1
 obtain ⟨r,hr⟩:=Ef hx
 exact ⟨r,by rw [tw,hr]⟩
section
variable {C:cQ} {U:St} {K':AV->St->Prop} {Kp:AV->St->Prop} {k:AV->Prop} {v:AV} {l:List Nd} {i e:Nat} {x:Nd}
theorem ED (h:eJ v l.length (bK l)) (hx:l[i]?=some x) (hk:∀ r,K' (.cN (db x++r)) U):(aL (some (e,6)) none v (.int .i64 (i:Int))).wp C U K' Kp:=by
 obtain ⟨r,hr⟩:=h.atN hx (e:=e)
 rw [hr]
 have:=(dx.1 hx).1
 exact ⟨by omega,hk r⟩
theorem Cb (h:eJ v l.length (bK l)) (hx:l[i]?=some x) (hk:∀ r,k (.cN (db x++r))):aB C (aL (some (e,6)) none v (.int .i64 (i:Int))) k:=by
 obtain ⟨r,hr⟩:=h.atN hx (e:=e)
 rw [hr]
 have:=(dx.1 hx).1
 exact ⟨by omega,hk r⟩
end
theorem eJ.dc {v:AV} {n:Nat} {cs:List AV} (h:eJ v n cs):v.dc=true/\au v=[v]:=by
 rcases h with ⟨rfl,rfl,rfl⟩ | ⟨c,rfl⟩ <;> exact ⟨rfl,rfl⟩
theorem xP {U:St} {R:cR->St->Prop} {v:AV} {l:List Nd} {n:Nat} {x:Nd} (hv:eJ v l.length (bK l)) (hx:l[n]?=some x) (h64:wa ((n:Int)+x.size))
 (h:∀ bn be bt ad,bn ≠ be->bn ≠ bt->be ≠ bt->U.live bn=none->U.live be=none->U.live bt=none->ad.box bn=some [.int .i64 (n:Nat)]->ad.box be=some [.int .i64 ((n:Int)+x.size)]->ad.box bt=some [v]->cW U ad->R (.ret (.func (.func 155) [] [.box bn 0,.box be 0,.box bt 0])) ad):ae K 81 [.agg [v],.int .i64 (n:Nat)] U R:=by
 refine Vb ?_
 unfold Xc
 rw [fA rfl]
 intro bt hbt
 rw [fA rfl]
 intro bn OO
 have mt:(U.new bt (.box (au (.agg [v])))).box bt=some [v]:=aG
 have e1:=bg hbt (x:=.box (au (.agg [v])))
 have fr1:U.live bt=none:=hbt.1
 generalize U.new bt (.box (au (.agg [v])))=aR at *
 have e2:=bg OO (x:=.box (au (.int .i64 (n:Nat))))
 have mn:(aR.new bn (.box (au (.int .i64 (n:Nat))))).box bn=some [.int .i64 (n:Nat)]:=aG
 have ntn:=OO.bP mt
 have fr2:U.live bn=none:=e1.fresh OO.1
 generalize aR.new bn (.box (au (.int .i64 (n:Nat))))=a7 at *
 have mt2:=e2.aX mt
 simp only [su mn,eD,jF,aZ,aJ,cU,su mt2]
 refine Cb hv hx fun r=>?_
 simp only [dJ,aJ,db,ix,List.drop,sZ,jF,Nq]
 refine ⟨h64,?_⟩
 rw [cz]
 intro be wy
 have e3:=bg wy (x:=.box [.int .i64 0])
 have me:(a7.new be (.box [.int .i64 0])).box be=some [.int .i64 0]:=aG
 have nne:=wy.bP mn
 have nte:=wy.bP mt2
 have fr3:U.live be=none:=(e1.trans e2).fresh wy.1
 refine ⟨?_,?_⟩
 . intro b hb
   simp only [eL,jN,gy,cD,fS,List.not_mem_nil,or_false] at hb
   have:b=bn\/b=bt:=by
    rcases hb with h | h | h <;> simp_all
   rw [mB]
   rcases this with rfl | rfl
   . rw [if_neg nne]
   . rw [if_neg nte]
 . rw [cI me]
   refine ⟨⟨rfl,rfl,by simp⟩,ak.mk (h bn be bt _ nne ntn.symm nte.symm fr2 fr3 fr1 ?_ ?_ ?_ ((e1.trans (e2.trans e3)).set fr3))⟩
   . rw [aO nne]; exact e3.aX mn
   . rw [aV]; rfl
   . rw [aO nte]; exact e3.aX mt2
theorem xL (l:List Nd) (en:Int):∀ (f p:Nat),(fj l en f p).length <= f
 | 0,_=>by simp [fj]
 | f+1,p=>by
   simp only [fj]
   split
   . split
     . have:=xL l en f (p+(Nd.size ‹_›).toNat)
       simp; omega
     . simp
   . simp
theorem Dr {v:AV} {l:List Nd} {n:Nat} {en:Int} {bn be bt:Nat} {U:St} {B:AV->Qr->St->Prop} {Kn:St->Prop} {Ke:Nat->St->Prop} {Kr:St->Prop} {Kp:AV->St->Prop} (I:List Nat->St->Prop) (J:St->Prop)
 (hv:eJ v l.length (bK l)) (hn:n < l.length) (hlen:l.length <= 100000) (hen:en <= l.length)
 (B0:∀ ks U,I ks U->U.box bn=some [.int .i64 (n:Nat)]/\U.box be=some [.int .i64 en]/\U.box bt=some [v])
 (CW:∀ ks U o L L',I ks U->U.loop o=some L->I ks (U.set o (.loop L')))
 (qw:∀ ks U o L,I ks U->U.dD o->I ks (U.new o (.loop L)))
 (hJ:∀ U o L L',J U->U.loop o=some L->J (U.set o (.loop L')))
 (body:∀ (ks:List Nat) (jk:Nat) (x:Nd) (aR:St) (o:Nat) (L1:fF) (q:Qr),I ks aR->l[jk]?=some x->(jk:Int) < en->0 < x.size->n < jk->ks.length < l.length->(∃ r,fj l en l.length (n+1)=ks++jk::r)->aR.loop o=some L1 ->
   (∀ a7,I (ks++[jk]) a7->x.size <= 100000->a7.loop o=some L1->q.n a7)->(∀ a7,J a7->a7.loop o=some L1->q.r a7)->B (.int .i64 (jk:Nat)) q aR)
 (fin:∀ ks aR o L,ks=fj l en l.length (n+1)->I ks aR->aR.loop o=some L->Kn (aR.del o))
 (TC:∀ aR o L,J aR->aR.loop o=some L->Kr (aR.del o))
 (h0:I [] U):rG K 1 (.func (.func 155) [] [.box bn 0,.box be 0,.box bt 0]) U (fun v q U=>q.Dd (fun U=>B v q U) U) Kn Ke Kr Kp:=by
 refine ⟨by kernel_rfl,fun o L ho HE ON Y=>?_⟩
 have I1:=qw _ _ o L h0 ho
 have L8:=vM (U:=U) (b:=o) (L:=L)
 generalize U.new o (.loop L)=aR at *
 refine F4 ?_
 unfold Jb
 rw [gz (B0 _ _ I1).1,eD,bA,dN]
 refine ⟨bI (by omega) (by omega),?_⟩
 refine ⟨fun m v0 v2 v3 v5 ad=>∃ ks f p,m=l.length - p/\v0=.rZ o/\v2=.box be 0/\v3=.box bt 0/\v5=.int .i64 (p:Nat)/\n < p/\p <= 300000/\l.length - p <= f/\ks++fj l en f p=fj l en l.length (n+1)/\I ks ad/\∃ L1,ad.loop o=some L1/\L1.st .ready none=L/\L1.state=.ready/\L1.fZ=none,
  ⟨_,[],l.length,n+1,rfl,rfl,rfl,rfl,by simp,by omega,by omega,by omega,rfl,I1,L,L8,by cases L; simp_all [fF.st],HE,ON⟩,?_⟩
 clear I1 L8
 rintro m v0 v2 v3 v5 a7 ⟨ks,f,p,rfl,rfl,rfl,rfl,rfl,hnp,hp3,hf,iC,I2,L1,js,fT,Bn,Bm⟩
 obtain ⟨k1,k2,k3⟩:=B0 _ _ I2
 rw [gz k2,eD,bA]
 simp only [cb,al,bf,aN]
 have stop:fj l en f p=[]->ak (I6 o Kn Ke Kr Kp) (.aH []) a7:=fun h=>by
  rw [h,gy] at iC
  refine ak.mk ⟨L1,js,by rw [Bn]; simp,?_⟩
  rw [Bm]
  exact fin ks a7 o L1 iC I2 js
 by_cases aQ:(p:Int) < en
 . have mZ:p < l.length:=by omega
   obtain ⟨x,hx⟩:∃ x,l[p]?=some x:=⟨l[p],by simp [mZ]⟩
   cases f with
   | zero=>omega
   | succ f =>
   have wF:fj l en (f+1) p=if 0 < x.size then p::fj l en f (p+x.size.toNat) else []:=by
    simp only [fj,hx,aQ,true_and]
   simp only [aQ,du,gR,cx,aJ,aZ,cU,su k3,eD,jF,mj]
   refine Cb hv hx fun r=>?_
   simp only [dJ,aJ,mj,db,ix,List.drop,sZ,jF,eY,aM,if_true,al,bY]
   refine ⟨fun hs=>?_,fun hs=>?_⟩
   . rw [if_pos hs] at wF
     simp only [iN,yx]
     refine Y _ _ _ L1 rfl js fT ?_
     refine ⟨L1,js,Bn,?_⟩
     have I3:=CW _ _ o L1 { L1 with state:=.busy } I2 js
     have sU:ks.length < l.length:=by
      have:=xL l en l.length (n+1)
      rw [<- iC,wF] at this
      simp at this; omega
     refine body ks p x _ o { L1 with state:=.busy } _ I3 hx aQ hs hnp sU ⟨_,by rw [<- iC,wF]⟩ fQ (fun bO I4 rW tu=>?_) fun bO hJ3 tu=>?_
     . refine ⟨_,tu,?_⟩
       have I5:=CW _ _ o _ { L1 with state:=.ready,fZ:=none } I4 tu
       obtain ⟨j1,j2,j3⟩:=B0 _ _ I5
       simp only [bB,ey,al,c8,bm,aZ,cU]
       rw [gz j3,eD,bA]
       refine ED hv hx fun r=>?_
       simp only [dJ,al,db,ix,List.drop,ox,bA,dN]
       refine ⟨bI (by omega) (by omega),_,?_,ks++[p],f,p+x.size.toNat,rfl,rfl,rfl,rfl,?_,by omega,by omega,by omega,?_,I5,_,fQ,by rw [<- fT]; rfl,rfl,rfl⟩
       . omega
       . congr 1; omega
       . rw [<- iC,wF]; simp
     . refine ⟨_,tu,?_⟩
       simp only [bB,ey,al,eQ,bE]
       refine ak.mk ⟨_,fQ,by simp,?_⟩
       exact TC _ o _ (hJ _ o _ _ hJ3 tu) fQ
   . rw [if_neg hs] at wF
     exact stop wF
 . simp only [aQ,eB,show (false == true)=false from rfl,cF,aM,bU,if_false,al,bm]
   refine stop ?_
   cases f with
   | zero=>rfl
   | succ f =>
     simp only [fj]
     split
     . rw [if_neg (fun h=>aQ h.1)]
     . rfl
end Go.Rip
namespace Go.Rip
open Go.Proofs Go.RowKit
def pV (aq U:St) (v:AV) (es:List Int):Prop:=(es=[]/\v=.ah)\/∃ b lx,v=.ms b 0 es.length 1 3/\U.box b=some (es.map (.int .i64)++lx)/\aq.live b=none
section
variable {aq U:St} {R:cR->St->Prop} {K':AV->St->Prop} {Kp:AV->St->Prop}
theorem Wy {b:Nat} {n a:Int} (hb:U.box b=some [.int .i64 n]) (h:R (.ret (.bool (decide (a <= n)))) U):ae K 133 [.int .i64 a,.box b 0] U R:=by
 refine QX ?_
 unfold QW
 rw [gz hb,eD,bA]
 simp only [mA,al]
 exact ak.mk h
theorem aeD {b:Nat} {L:List AV} {es:List Int} {lx:List AV} (h:U.box b=some L) (hL:L=es.map (.int .i64)++lx) {i n:Nat} (hi:i < es.length) (hn:i < n) (hk:K' (.int .i64 es[i]) U) :
 (aL (some (3,1)) none (.ms b 0 n 1 3) (.int .i64 (i:Nat))).wp K U (fun v U=>(aj (some (false,1)) v U).wp K U K' Kp) Kp:=by
 rw [AT]
 refine ⟨⟨by omega,by omega,rfl⟩,?_⟩
 rw [gz h]
 have:L.drop (0+(i:Int).toNat * 1)=.int .i64 es[i]::((es.map (AV.int .i64)).drop (i+1)++lx):=by
  rw [hL,iZ,Nat.mul_one,cU,List.drop_append_of_le_length (by simp; omega),gT (by simpa using hi)]
  simp
 rw [this,bA]
 exact hk
theorem Fq {b bn:Nat} {es:List Int} {lx:List AV} {n:Int} (hb:U.box b=some (es.map (.int .i64)++lx)) (hn:U.box bn=some [.int .i64 n]) (hl:es.length <= 100000)
 (h:(∃ k,k < es.length/\(es.take k).all (fun a=>decide (n < a))=true/\(∃ hk:k < es.length,es[k] <= n)/\R (.ret (.int .i64 (k:Nat))) U)\/(es.all (fun a=>decide (n < a))=true/\R (.ret (.int .i64 (-1))) U)) :
 ae K 210 [.ms b 0 es.length 1 3,.func (.func 133) [] [.box bn 0]] U R:=by
 refine F7 ?_
 unfold Je
 simp only [Iv,al]
 refine ⟨fun m v0 v1 v7 v8 ad=>∃ i:Nat,m=es.length - i/\i <= es.length/\v0=.ms b 0 es.length 1 3/\v1=.func (.func 133) [] [.box bn 0]/\v7=.int .i64 es.length/\v8=.int .i64 i/\ad=U/\(es.take i).all (fun a=>decide (n < a))=true,⟨_,0,rfl,by omega,rfl,rfl,rfl,rfl,rfl,by simp⟩,?_⟩
 rintro m v0 v1 v7 v8 ad ⟨i,rfl,hi,rfl,rfl,rfl,rfl,rfl,cm⟩
 simp only [cb,al,bY]
 have KN:∀ (k:Nat) (hk:k < es.length),(es.take i).all (fun a=>decide (n < a))=true->k < i->n < es[k]:=fun k hk ha KU=>by
  rw [fl] at ha
  have:es[k] ∈ es.take i:=by
   rw [List.mem_iff_getElem]
   exact ⟨k,by simp; omega,by simp⟩
  simpa using ha _ this
 refine ⟨fun aQ=>?_,fun kn=>?_⟩
 . have aQ:i < es.length:=by omega
   refine aeD hb rfl aQ aQ ?_
   simp only [iN,show eX K.P 133=true by kernel_rfl,if_true,lF,jN,ix]
   refine Wy hn ?_
   simp only [bB,bY]
   refine ⟨fun hle=>?_,fun wD=>?_⟩
   . rcases h with ⟨k,hk,qN,⟨_,gl⟩,hR⟩ | ⟨hA,_⟩
     . have:k=i:=by
        rcases Nat.lt_trichotomy k i with h | h | h
        . have:=KN k hk cm h; omega
        . exact h
        . rw [fl] at qN
          have hm:es[i] ∈ es.take k:=by
           rw [List.mem_iff_getElem]
           exact ⟨i,by simp; omega,by simp⟩
          have:=qN _ hm
          simp at this; omega
       subst this
       exact ak.mk hR
     . rw [fl] at hA
       have:=hA es[i] (List.getElem_mem aQ)
       simp at this; omega
   . rw [dN]
     refine ⟨bI (by omega) (by omega),es.length - (i+1),by omega,i+1,rfl,by omega,rfl,rfl,rfl,by simp,rfl,?_⟩
     rw [sw,pk aQ,List.all_append,cm]
     simp; omega
 . have hi:i=es.length:=by omega
   subst hi
   rw [tn] at cm
   rcases h with ⟨k,hk,qN,⟨_,gl⟩,hR⟩ | ⟨_,hR⟩
   . rw [fl] at cm
     have:=cm es[k] (List.getElem_mem hk)
     simp at this; omega
   . exact ak.mk hR
theorem E0:∀ (es:List Int) (n:Int),(∃ k,∃ hk:k < es.length,(es.take k).all (fun a=>decide (n < a))=true/\es[k] <= n)\/es.all (fun a=>decide (n < a))=true
 | [],n=>.inr rfl
 | a::es,n=>by
   by_cases ha:n < a
   . rcases E0 es n with ⟨k,hk,h1,h2⟩ | h
     . exact .inl ⟨k+1,by simp; omega,by simp [ha,h1],by simpa using h2⟩
     . exact .inr (by simp [ha,h])
   . exact .inl ⟨0,by simp,by simp,by simp; omega⟩
theorem Oo {v:AV} {bn:Nat} {es:List Int} {n:Int} (hv:pV aq U v es) (hn:U.box bn=some [.int .i64 n]) (hl:es.length <= 100000) (hE:cW aq U) (OO:∀ b,aq.live b=none->v=.ms b 0 es.length 1 3->bn ≠ b)
 (h:∀ ad v',pV aq ad v' (es.filter (n < ·))->cW aq ad->(∀ b x,(∀ k,v ≠ .ms b 0 k 1 3)->U.box b=some x->ad.box b=some x)->(∀ b k,v'=.ms b 0 k 1 3->v=.ms b 0 es.length 1 3)->R (.ret v') ad):ae K 132 [v,.func (.func 133) [] [.box bn 0]] U R:=by
 refine QV ?_
 unfold QU
 rcases hv with ⟨rfl,rfl⟩ | ⟨b,lx,rfl,hb,Bd⟩
 ·
  have ae0:ae K 210 [.ah,.func (.func 133) [] [.box bn 0]] U (ag (fun v10 U =>
   (ax .eql (BT.mk false false false none false) true v10 (AV.int .i64 (-1))).wp K U (fun v12 U=>aw v12 (ak R .ah U) False) (aa R)) (aa R)):=by
   refine F7 ?_
   unfold Je
   simp only [len_nil,al]
   refine ⟨fun m v0 v1 v7 v8 ad=>v7=.int .i64 0/\v8=.int .i64 0/\ad=U,⟨0,rfl,rfl,rfl⟩,?_⟩
   rintro m v0 v1 v7 v8 ad ⟨rfl,rfl,rfl⟩
   simp only [cb,al,show decide ((0:Int) < 0)=false from rfl,bm]
   refine ak.mk ?_
   simp only [bB,br,al,du,bE]
   exact ak.mk (h ad .ah (.inl ⟨rfl,rfl⟩) hE (fun _ _ _ h=>h) (fun _ _ e=>by cases e))
  refine ae0.mono fun r ad hr=>?_
  cases r with
  | panic x=>exact hr
  | ret x =>
    simp only [bB] at hr ⊢
    refine aD.wp_mono (fun v U hv=>?_) _ hr
    cases v <;> simp only [aw] at hv ⊢
    exact ⟨hv.1,fun e=>(hv.2 e).elim⟩
 . have Fc:bn ≠ b:=OO b Bd rfl
   rcases E0 es n with ⟨k,hk,qN,gl⟩ | cm
   . refine Fq hb hn hl (.inl ⟨k,hk,qN,⟨hk,gl⟩,?_⟩)
     have hkn:¬ ((k:Nat):Int)=-1:=by omega
     simp only [bB,br,al,hkn,eB,bm,dN]
     refine ⟨bI (by omega) (by omega),?_⟩
     have VW:(es.take (k+1)).filter (n < ·)=es.take k:=by
      rw [sw,pk hk,List.filter_append]
      have h1:(es.take k).filter (n < ·)=es.take k:=by
       rw [List.filter_eq_self]
       intro a ha
       rw [fl] at qN
       exact qN a ha
      rw [h1]
      have:¬ n < es[k]:=by omega
      simp [this]
     refine ⟨fun m v0 v1 v5 v6 ad=>∃ (i j:Nat) (arr:List AV),m=es.length - j/\v0=.ms b 0 es.length 1 3/\v1=.func (.func 133) [] [.box bn 0]/\v5=.int .i64 (i:Nat)/\v6=.int .i64 (j:Nat)/\j <= es.length/\i < j/\ad.box b=some arr/\arr.take i=((es.take j).filter (n < ·)).map (.int .i64)/\i=((es.take j).filter (n < ·)).length/\arr.drop j=(es.drop j).map (.int .i64)++lx/\arr.length=es.length+lx.length/\(∀ c,c ≠ b->ad.live c=U.live c),
      ⟨_,k,k+1,es.map (.int .i64)++lx,rfl,rfl,rfl,rfl,by simp,by omega,by omega,hb,?_,?_,?_,by simp,fun _ _=>rfl⟩,?_⟩
     . rw [VW,List.take_append_of_le_length (by simp; omega),<- List.map_take]
     . rw [VW]; simp; omega
     . rw [List.drop_append_of_le_length (by simp; omega),<- List.map_drop]
     . rintro m v0 v1 v5 v6 ad ⟨i,j,arr,rfl,rfl,rfl,rfl,rfl,hj,fP,ff,VT,ha2,ha3,ha4,oU⟩
       simp only [Iv,al,cb,bY]
       refine ⟨fun aQ=>?_,fun kn=>?_⟩
       . have aQ:j < es.length:=by omega
         intro jj Bi
         have Fh:ad.box bn=some [.int .i64 n]:=by rw [dy (oU bn Fc)]; exact hn
         rw [AT]
         refine ⟨⟨by omega,by omega,rfl⟩,?_⟩
         rw [gz ff]
         obtain ⟨rr,hd⟩:∃ rr,arr.drop (0+(j:Int).toNat * 1)=.int .i64 es[j]::rr:=by
          rw [iZ,Nat.mul_one,cU,ha3,gT aQ,eC]
          exact ⟨_,rfl⟩
         rw [hd,bA]
         simp only [iN,show eX K.P 133=true by kernel_rfl,if_true,lF,jN,ix]
         refine Wy Fh ?_
         have ru:es.take (j+1)=es.take j++[es[j]]:=by rw [sw,pk aQ]; rfl
         have Bf:arr.drop (j+1)=(es.drop (j+1)).map (.int .i64)++lx:=by
          rw [<- List.drop_drop,ha3,gT aQ,eC]; rfl
         simp only [bB,ey,al]
         by_cases hle:es[j] <= n
         . simp only [hle,du,c8,bm]
           refine Bi _ _ _ _ _ ?_
           simp only [dN]
           refine ⟨bI (by omega) (by omega),es.length - (j+1),by omega,i,j+1,arr,rfl,rfl,rfl,rfl,by simp,by omega,by omega,ff,?_,?_,Bf,ha4,oU⟩
           . rw [ru,List.filter_append,VT]
             have:¬ n < es[j]:=by omega
             simp [this]
           . rw [ru,List.filter_append]
             have:¬ n < es[j]:=by omega
             simp only [List.filter_cons,this,eB,bU,if_false,List.filter_nil,gy]
             exact ha2
         . simp only [hle,eB,eQ,bE]
           rw [AT]
           refine ⟨⟨by omega,by omega,rfl⟩,?_⟩
           rw [cI ff]
           refine ⟨⟨rfl,rfl,by simp; omega⟩,?_⟩
           rw [dN]
           refine ⟨bI (by omega) (by omega),?_⟩
           refine Bi _ _ _ _ _ ?_
           simp only [dN]
           have K4:ay arr (0+(i:Int).toNat * 1) (au (.int .i64 es[j]))=arr.take i++[.int .i64 es[j]]++arr.drop (i+1):=by
            simp [ay]
           have HR:(arr.take i).length=i:=by simp; omega
           refine ⟨bI (by omega) (by omega),es.length - (j+1),by omega,i+1,j+1,_,rfl,rfl,rfl,by simp,by simp,by omega,by omega,aV,?_,?_,?_,?_,fun c hc=>by rw [dR,if_neg hc]; exact oU c hc⟩
           . rw [K4,List.take_append_of_le_length (by simp; omega),qC (by simp; omega),VT,ru,List.filter_append]
             have:n < es[j]:=by omega
             simp [this]
           . rw [ru,List.filter_append]
             have:n < es[j]:=by omega
             simp only [List.filter_cons,this,du,if_true,List.filter_nil,df,gU,lB]
             omega
           . rw [K4,<- Bf]
             rw [List.drop_append,List.drop_eq_nil_of_le (by simp; omega),jN,List.drop_drop]
             congr 1
             simp
             omega
           . rw [K4]; simp; omega
       . have hje:j=es.length:=by omega
         subst hje
         rw [tn] at VT ha2
         simp only [fG,eh,wp_cond,al]
         refine ⟨⟨by omega,by omega,by omega,by omega,trivial⟩,?_⟩
         simp only [CD,ff,wp_cond,mv]
         refine ⟨⟨trivial,by simp; omega⟩,⟨by omega,by omega,by omega,by simp,trivial⟩,?_⟩
         refine ak.mk (h _ _ (.inr ⟨b,(ay arr (0+(i:Int).toNat * 1) (bN ((es.length:Int).toNat - (i:Int).toNat) [.int .i64 0])).drop i,?_,?_,Bd⟩) ?_ ?_ ?_)
         . simp [ha2]
         . rw [aV]
           congr 1
           have hz:(bN (es.length - i) [AV.int .i64 0]).length=es.length - i:=by simp [lT]
           simp only [iZ,Nat.mul_one,cU]
           conv=>lhs; rw [<- List.take_append_drop i (ay arr i _)]
           congr 1
           simp only [ay,gn]
           rw [List.take_append_of_le_length (by simp; omega),qC (by simp; omega)]
           exact VT
         . refine cW.set (fun c x e=>?_) Bd
           by_cases hc:c=b
           . subst hc; rw [Bd] at e; cases e
           . rw [oU c hc]; exact hE c x e
         . intro c x hc hx
           have hcb:c ≠ b:=fun e=>hc es.length (by rw [e])
           rw [aO hcb,dy (oU c hcb)]; exact hx
         . intro c k e
           simp only [AV.ms.injEq] at e
           rw [e.1]
   . refine Fq hb hn hl (.inr ⟨cm,?_⟩)
     simp only [bB,br,al,du,bE]
     have hf:es.filter (n < ·)=es:=by
      rw [List.filter_eq_self]
      intro a ha
      rw [fl] at cm
      exact cm a ha
     exact ak.mk (h U _ (by rw [hf]; exact .inr ⟨b,lx,rfl,hb,Bd⟩) hE (fun _ _ _ h=>h) (fun b' k e=>by cases e; rfl))
end
end Go.Rip
namespace Go.Rip
open Go.Proofs Go.RowKit
section
variable {aq U:St} {R:cR->St->Prop} {K':AV->St->Prop} {Kp:AV->St->Prop} {v:AV} {es:List Int}
theorem Tq (h:pV aq U v es):cw (some false) v=.val (.int .i64 es.length):=by
 rcases h with ⟨rfl,rfl⟩ | ⟨b,lx,rfl,_,_⟩ <;> rfl
theorem Tp {bx:Nat} {a:Int} (hv:pV aq U v es) (hy:U.box bx=some [.int .i64 a]) (E:cW aq U) (hl:es.length <= 100000) (h:∀ ad v',pV aq ad v' (es++[a])->cW aq ad->K' v' ad) :
 (eH (some (3,1)) true v (.ms bx 0 1 1 3) U).wp K U K' Kp:=by
 have MG:rJ U (.ms bx 0 1 1 3)=some (1,[.int .i64 a]):=by simp [rJ,hy]
 rcases hv with ⟨rfl,rfl⟩ | ⟨b,lx,rfl,hb,Bd⟩
 . simp only [eH,MG,wp_cond]
   refine ⟨rfl,by omega,fun b hf=>?_⟩
   exact h _ _ (.inr ⟨b,[],rfl,by rw [show U.tf none=U from rfl]; exact aG,E.fresh hf.1⟩) (E.new hf)
 . refine Jz hb MG ⟨rfl,by simp,by omega⟩ fun b' hf=>?_
   refine h _ _ (.inr ⟨b',[],by simp,?_,?_⟩) ((E.del Bd).new hf)
   . rw [aG]; simp
   . have hd:=hf.1
     by_cases e:b'=b
     . rw [e]; exact Bd
     . rw [kF,if_neg e] at hd; exact E.fresh hd
end
theorem CM {v:AV} {l:List Nd} (hv:eJ v l.length (bK l)) (hc:closed v=true) (hl:l.length <= 100000) (h0:l ≠ []) (hs:∀ x ∈ l,0 <= x.size/\x.size <= 100000) (wH:lK l <= l.length):Pure K 69 [.agg [v]] (.bool (ji l)):=by
 refine Pure.of (by simp [cA,closed,hc]) rfl (fun U=>rfl) fun R hR=>?_
 refine U6 ?_
 unfold W7
 rw [fA rfl]
 intro b1 gQ
 have m1:((bM ⟨.e,0⟩).new b1 (.box (au (.agg [v])))).box b1=some [v]:=aG
 generalize (bM _).new b1 _=aq at *
 clear gQ
 simp only [aZ,al,cU]
 rw [gz m1,eD,bA,hv.len,al]
 refine ⟨fun m v1 v2 v3 v8 v9 v10 ad=>∃ (i:Nat) (es:List Int),m=l.length - i/\v1=.box b1 0/\v2=.bool false/\v8=v/\v9=.int .i64 l.length/\v10=.int .i64 (i:Nat)/\i <= l.length/\pV aq ad v3 es/\es.length <= i/\ir (l.drop i) i es=ir l 0 []/\cW aq ad,
  ⟨_,0,[],rfl,rfl,rfl,rfl,rfl,rfl,by omega,.inl ⟨rfl,rfl⟩,by simp,rfl,cW.refl _⟩,?_⟩
 rintro m v1 v2 v3 v8 v9 v10 aR ⟨i,es,rfl,rfl,rfl,rfl,rfl,rfl,hi,zp,hel,hg,E1⟩
 simp only [cb,al,bY]
 refine ⟨fun aQ=>?_,fun kn=>?_⟩
 . have aQ:i < l.length:=by omega
   obtain ⟨x,hx⟩:∃ x,l[i]?=some x:=⟨l[i],by simp [aQ]⟩
   have CR:l.drop i=x::l.drop (i+1):=by
    rw [gT aQ]
    have:=(dx.1 hx).2
    rw [this]
   rw [CR,ir] at hg
   refine ED hv hx fun r=>?_
   rw [tZ]
   refine ⟨by simp [db],?_⟩
   have HF:(db x++r).take 6=db x:=by simp [db]
   rw [HF,cz]
   intro b4 gN
   rw [cz]
   intro b5 jP
   have m4:(aR.new b4 (.box [.int .i64 0])).box b4=some [.int .i64 0]:=aG
   have Bx:=jP.bP m4
   have f4:=E1.fresh gN.1
   have E2:=E1.new gN (x:=.box [.int .i64 0])
   have TW:pV aq (aR.new b4 (.box [.int .i64 0])) v3 es/\(∀ b,v3=.ms b 0 es.length 1 3->b4 ≠ b):=by
    rcases zp with h | ⟨b,lx,rfl,h2,h3⟩
    . exact ⟨.inl h,fun b e=>by rw [h.2] at e; cases e⟩
    . have:=gN.bP h2
      exact ⟨.inr ⟨b,lx,rfl,by rw [pz this]; exact h2,h3⟩,fun b' e=>by cases e; exact this.symm⟩
   obtain ⟨TW,T4⟩:=TW
   clear zp
   generalize aR.new b4 (.box [.int .i64 0])=a7 at *
   have m5:(a7.new b5 (.box [AV.int .u8 0,AV.str [],AV.int .i64 0,AV.int .i64 0,AV.int .i64 0,AV.int .i64 0])).box b5=some [AV.int .u8 0,AV.str [],AV.int .i64 0,AV.int .i64 0,AV.int .i64 0,AV.int .i64 0]:=aG
   have f5:=E2.fresh jP.1
   have E3:=E2.new jP (x:=.box [AV.int .u8 0,AV.str [],AV.int .i64 0,AV.int .i64 0,AV.int .i64 0,AV.int .i64 0])
   have m4':=(bg jP (x:=.box [AV.int .u8 0,AV.str [],AV.int .i64 0,AV.int .i64 0,AV.int .i64 0,AV.int .i64 0])).aX m4
   have TX:pV aq (a7.new b5 (.box [AV.int .u8 0,AV.str [],AV.int .i64 0,AV.int .i64 0,AV.int .i64 0,AV.int .i64 0])) v3 es/\(∀ b,v3=.ms b 0 es.length 1 3->b5 ≠ b):=by
    rcases TW with h | ⟨b,lx,rfl,h2,h3⟩
    . exact ⟨.inl h,fun b e=>by rw [h.2] at e; cases e⟩
    . have:=jP.bP h2
      exact ⟨.inr ⟨b,lx,rfl,by rw [pz this]; exact h2,h3⟩,fun b' e=>by cases e; exact this.symm⟩
   obtain ⟨TX,abb⟩:=TX
   generalize a7.new b5 (.box [AV.int .u8 0,AV.str [],AV.int .i64 0,AV.int .i64 0,AV.int .i64 0,AV.int .i64 0])=bO at *
   rw [cI m4']
   refine ⟨⟨rfl,rfl,by simp⟩,?_⟩
   rw [cI (show (bO.set b4 _).box b5=some _ by rw [aO Bx.symm]; exact m5)]
   refine ⟨⟨rfl,rfl,by simp [db]⟩,?_⟩
   have E4:=(E3.set f4 (x:=.box (ay [.int .i64 0] 0 (au (.int .i64 (i:Nat)))))).set f5 (x:=.box (ay [AV.int .u8 0,AV.str [],AV.int .i64 0,AV.int .i64 0,AV.int .i64 0,AV.int .i64 0] 0 (au (.agg (db x)))))
   have g4:((bO.set b4 (.box (ay [.int .i64 0] 0 (au (.int .i64 (i:Nat)))))).set b5 (.box (ay [AV.int .u8 0,AV.str [],AV.int .i64 0,AV.int .i64 0,AV.int .i64 0,AV.int .i64 0] 0 (au (.agg (db x)))))).box b4=some [.int .i64 (i:Nat)]:=by
    rw [aO Bx,aV]; rfl
   have g5:((bO.set b4 (.box (ay [.int .i64 0] 0 (au (.int .i64 (i:Nat)))))).set b5 (.box (ay [AV.int .u8 0,AV.str [],AV.int .i64 0,AV.int .i64 0,AV.int .i64 0,AV.int .i64 0] 0 (au (.agg (db x)))))).box b5=some (db x):=by
    rw [aV]; rfl
   have aa0:pV aq ((bO.set b4 (.box (ay [.int .i64 0] 0 (au (.int .i64 (i:Nat)))))).set b5 (.box (ay [AV.int .u8 0,AV.str [],AV.int .i64 0,AV.int .i64 0,AV.int .i64 0,AV.int .i64 0] 0 (au (.agg (db x)))))) v3 es:=by
    rcases TX with h | ⟨b,lx,rfl,h2,h3⟩
    . exact .inl h
    . exact .inr ⟨b,lx,rfl,by rw [aO (abb b rfl).symm,aO (T4 b rfl).symm]; exact h2,h3⟩
   generalize (bO.set b4 (.box (ay [.int .i64 0] 0 (au (.int .i64 (i:Nat)))))).set b5 (.box (ay [AV.int .u8 0,AV.str [],AV.int .i64 0,AV.int .i64 0,AV.int .i64 0,AV.int .i64 0] 0 (au (.agg (db x)))))=cG at *
   refine Oo aa0 g4 (by omega) E4 (fun b _ e=>T4 b e) fun di v' aa1 E5 hk5 _=>?_
   have rp:∀ b y,b4=b\/b5=b->cG.box b=some y->di.box b=some y:=fun b y hb hy=>by
    refine hk5 b y (fun k e=>?_) hy
    rcases aa0 with h | ⟨b',lx,rfl,h2,h3⟩
    . rw [h.2] at e; cases e
    . simp only [AV.ms.injEq] at e
      rcases hb with rfl | rfl
      . exact T4 b' rfl e.1.symm
      . exact abb b' rfl e.1.symm
   have g4':=rp b4 _ (.inl rfl) g4
   have g5':=rp b5 _ (.inr rfl) g5
   simp only [bB,Tq aa1,al,eY,bY]
   have Bg:(es.filter ((i:Int) < ·)).length <= es.length:=List.length_filter_le _ _
   refine ⟨fun wD=>?_,fun hle=>?_⟩
   . rw [if_pos (by omega)] at hg
     refine ak.mk ?_
     have:ji l=true:=by simp [ji,<- hg]
     rw [this] at hR
     exact hR _
   . rw [if_neg (by omega)] at hg
     have hsx:=hs x (gh hx)
     rw [gz g4',eD,bA]
     simp only [aZ,al,cU]
     rw [gz g5']
     simp only [db,List.drop,bA,dN]
     refine ⟨bI (by omega) (by omega),?_⟩
     rw [vy]
     refine ⟨by omega,?_⟩
     rw [eG (o:=0) (s:=1) rfl]
     refine ⟨⟨rfl,rfl,by simp [bN]⟩,?_⟩
     rw [AS]
     refine ⟨rfl,fun bx yG=>?_⟩
     have afa:pV aq (di.new bx (.box (ay (bN 1 [AV.int .i64 0]) 0 (au (.int .i64 ((i:Int)+x.size)))))) v' (es.filter ((i:Int) < ·)):=by
      rcases aa1 with h | ⟨b',lx,rfl,h2,h3⟩
      . exact .inl h
      . exact .inr ⟨b',lx,rfl,by rw [pz (yG.bP h2)]; exact h2,h3⟩
     refine Tp afa (by rw [aG]; rfl) (E5.new yG) (by omega) fun jo v7 afb E7=>?_
     refine ⟨bI (by omega) (by omega),l.length - (i+1),by omega,i+1,_,rfl,rfl,rfl,rfl,rfl,by simp,by omega,afb,by simp; omega,hg,E7⟩
 . have hi:i=l.length:=by omega
   subst hi
   rw [List.drop_length] at hg
   have OU:ir l 0 []=false:=hg.symm
   have wD:ji l=decide (24 < (fj l (lK l) l.length 1).length):=by simp [ji,OU]
   rw [wD] at hR
   rw [cz]
   intro b6 rU
   have m6:(aR.new b6 (.box [.int .i64 0])).box b6=some [.int .i64 0]:=aG
   have m1':=(E1.new rU (x:=.box [.int .i64 0])).aX m1
   have n16:=rU.bP (E1.aX m1)
   generalize aR.new b6 (.box [.int .i64 0])=a7 at *
   rw [cI m6]
   refine ⟨⟨rfl,rfl,by simp⟩,?_⟩
   have FN:(a7.set b6 (.box (ay [.int .i64 0] 0 (au (.int .i64 0))))).box b6=some [.int .i64 (([]:List Nat).length:Nat)]:=by rw [aV]; rfl
   have afO:(a7.set b6 (.box (ay [.int .i64 0] 0 (au (.int .i64 0))))).box b1=some [v8]:=by rw [aO n16]; exact m1'
   generalize a7.set b6 (.box (ay [.int .i64 0] 0 (au (.int .i64 0))))=bO at *
   rw [o5 afO]
   refine ⟨by simp,?_⟩
   refine oQ [v8] (by simp [td,hv.dc,ay]) ?_
   cases l with
   | nil=>exact absurd rfl h0
   | cons x0 l =>
   have hx0:=hs x0 (by simp)
   refine xP (n:=0) (x:=x0) hv rfl (bI (by simp; omega) (by simp; omega)) fun bn be bt cG d1 d2 d3 f1 f2 f3 k1 k2 k3 e4=>?_
   have m6n:=e4.aX FN
   have en:(((0:Nat):Int)+x0.size)=lK (x0::l):=by simp [lK]
   rw [en] at k2
   have nn:bn ≠ b6:=fun e=>by rw [e] at f1; exact cj FN f1
   have ne:be ≠ b6:=fun e=>by rw [e] at f2; exact cj FN f2
   have nt:bt ≠ b6:=fun e=>by rw [e] at f3; exact cj FN f3
   refine Dr (fun ks U=>U.box b6=some [.int .i64 (ks.length:Nat)]/\U.box bn=some [.int .i64 ((0:Nat):Int)]/\U.box be=some [.int .i64 (lK (x0::l))]/\U.box bt=some [v8]/\True) (fun _=>False) hv (by simp) (by omega) wH
    (fun ks U h=>h.2.imp id fun h=>h.imp id fun h=>h.1) (fun ks U o L L' h hL=>?_) (fun ks U o L h ho=>?_) (fun _ _ _ _ h=>h.elim) (fun ks jk x di o L1 q hI hx aQ rq hnk sU _ hL hn hr=>?_) (fun ks di o L iC hI hL=>?_) (fun _ _ _ h=>h.elim) ⟨m6n,k1,k2,k3,trivial⟩
   . exact ⟨by rw [aO (bT h.1 hL)]; exact h.1,by rw [aO (bT h.2.1 hL)]; exact h.2.1,by rw [aO (bT h.2.2.1 hL)]; exact h.2.2.1,by rw [aO (bT h.2.2.2.1 hL)]; exact h.2.2.2.1,h.2.2.2.2⟩
   . have e:=bg ho (x:=.loop L)
     exact ⟨e.aX h.1,e.aX h.2.1,e.aX h.2.2.1,e.aX h.2.2.2.1,h.2.2.2.2⟩
   . obtain ⟨i1,i2,i3,i4,i5⟩:=hI
     rw [gz i1,eD,bA,dN]
     refine ⟨bI (by omega) (by omega),?_⟩
     rw [cI i1]
     refine ⟨⟨rfl,rfl,by simp⟩,?_⟩
     refine hn _ ⟨by rw [aV]; simp [ay],by rw [aO nn]; exact i2,by rw [aO ne]; exact i3,by rw [aO nt]; exact i4,trivial⟩ (hs x (gh hx)).2 (by rw [fM]; exact hL; rw [dR,if_neg (bT i1 hL).symm])
   . obtain ⟨i1,i2,i3,i4,i5⟩:=hI
     have i1':(di.del o).box b6=some [.int .i64 (ks.length:Nat)]:=by rw [jg (bT i1 hL)]; exact i1
     show (aj (some (false,1)) (.box b6 0) (di.del o)).wp K (di.del o) _ _
     rw [gz i1',eD,bA]
     simp only [eY,al]
     subst iC
     refine ak.mk ?_
     have:=hR (di.del o)
     have e:decide ((24:Int) < ((fj (x0::l) (lK (x0::l)) (x0::l).length (0+1)).length:Nat))=decide (24 < (fj (x0::l) (lK (x0::l)) (x0::l).length 1).length):=by
      rw [pU]; simp only [dS,cU]; omega
     rw [e]; exact this
end Go.Rip
namespace Go.Rip
open Go.Proofs Go.RowKit
theorem ml {U:St} {a b:Nat} {l:List AV} (h:b ≠ a):(U.cg a l).live b=U.live b:=by
 simp [St.cg,St.set,h]
theorem kL.cg {r:Nat} {U ad:St} {b:Nat} {l:List AV} (h:kL r U ad) (n:U.live b=none):kL r U (ad.cg b l):=fun c y m e=>by
 by_cases hc:c=b
 . subst hc; rw [n] at e; cases e
 . rw [ml hc]; exact h c y m e
theorem eA.scalar {a:AV} {ns:List Nd} (hk:eA false [a] ns):a.scalar=true:=by
 generalize hb:false=b at hk
 generalize hl:[a]=la at hk
 cases hk with
 | mk _ _=>cases hl; rfl
 | nil=>cases hl
 | cons _ _=>cases hb
section
variable {X:Rx} {r i:Nat} {U:St} {R:cR->St->Prop}
theorem ND (hr:U.box r=some (rd X i)) (hi:i <= X.L.length) (h1:∀ ns j a ad,mL X.L X.E (fuel X.L) i=.ok ns j->j <= X.L.length->i < j->eA false [a] ns->gr r (rd X j) U ad->R (.ret (.aH [a,.int .i64 0,.bool true])) ad)
 (h2:∀ j ad,mL X.L X.E (fuel X.L) i=.bad j->i <= j->j <= X.L.length->gr r (rd X j) U ad->R (.ret (.aH [.aY,.int .i64 (de X.L X.E j),.bool false])) ad):ae K 54 [.box r 0,.func (.func 55) [.box r 0] []] U R:=by
 refine Cm _ _ _ _ _ _ (by kernel_rfl) fun a b c ha hb hc=>?_
 have na:=ha.bP hr
 have fa:U.live a=none:=ha.1
 have e1:=bg ha (x:=.box [.aY])
 have ka:(U.new a (.box [.aY])).box a=some [.aY]:=aG
 generalize U.new a (.box [.aY])=aR at *
 have nb:=hb.bP (e1.aX hr)
 have nab:=hb.bP ka
 have fb:U.live b=none:=e1.fresh hb.1
 have e2:=bg hb (x:=.box [.int .i64 0])
 have kb:(aR.new b (.box [.int .i64 0])).box b=some [.int .i64 0]:=aG
 have ka2:=e2.aX ka
 generalize aR.new b (.box [.int .i64 0])=a7 at *
 have nc:=hc.bP ((e1.trans e2).aX hr)
 have nac:=hc.bP ka2
 have nbc:=hc.bP kb
 have fc:U.live c=none:=(e1.trans e2).fresh hc.1
 have e3:=bg hc (x:=.box [.bool false])
 have kc:(a7.new c (.box [.bool false])).box c=some [.bool false]:=aG
 have ka3:=e3.aX ka2
 have kb3:=e3.aX kb
 have e13:=e1.trans (e2.trans e3)
 have yL:=e13.aX hr
 generalize a7.new c (.box [.bool false])=bO at *
 have hg:=MP (L:=X.L) (E:=X.E) hi
 refine Ui X hi r bO _ yL ⟨fun ns j e hj v ad hk A=>?_,fun j e ad A=>?_⟩
 . rw [e] at hg
   refine ⟨hk.scalar,⟨_,A.ex.aX na.symm ka3⟩,⟨_,A.ex.aX nb.symm kb3⟩,⟨_,A.ex.aX nc.symm kc⟩,?_⟩
   refine h1 ns j v _ e hj hg.1 hk ⟨?_,(((e13.Hr.trans A.ex).cg fa).cg fb).cg fc⟩
   rw [dy (ml nc),dy (ml nb),dy (ml na)]
   exact A.box
 . rw [e] at hg
   refine ⟨_,rfl,⟨_,A.ex.aX na.symm ka3⟩,⟨_,A.ex.aX nb.symm kb3⟩,⟨_,A.ex.aX nc.symm kc⟩,fun q hq=>?_⟩
   have hqr:=hq.bP A.box
   refine h2 j _ e hg.1 hg.2 ⟨?_,((((e13.Hr.trans A.ex).new hq).cg fa).cg fb).cg fc⟩
   rw [dy (ml nc),dy (ml nb),dy (ml na),pz hqr]
   exact A.box
end
def eT (l:List Nd):AV:=if l=[] then .ah else .vec l.length .iE (bK l)
def lE (l:List Nd):List Nd × Int:=if 900 < (node 1 [] 0 0 0 l).length\/ji (node 1 [] 0 0 0 l)=true then ([],5) else (node 1 [] 0 0 0 l,0)
theorem eA.ad6:∀ {b:Bool} {ks:List AV} {l:List Nd},eA b ks l->∀ x ∈ l,1 <= x.size/\x.size <= l.length:=by
 intro b ks l h
 induction h with
 | mk h1 h2 ih =>
   intro x hx
   simp only [node,cD] at hx
   rw [bW]
   rcases hx with rfl | hx
   . simp; omega
   . have:=ih x hx; omega
 | nil=>intro x hx; cases hx
 | cons h1 h2 i1 i2 =>
   intro x hx
   simp only [fS] at hx
   rw [df]
   rcases hx with hx | hx
   . have:=i1 x hx; omega
   . have:=i2 x hx; omega
theorem VF {U:St} {R:cR->St->Prop} {v:AV} {ks:List AV} {l:List Nd} (hv:ks=[]/\v=.ah\/∃ c,v=.vec ks.length c ks) (hk:eA true ks l) (hl:l.length <= 90000)
 (h:∀ ad,cW U ad->R (.ret (.aH [.agg [eT (lE l).1],.int .i64 (lE l).2])) ad):ae K 56 [v] U R:=by
 refine U1 ?_
 unfold W2
 rw [cz]
 intro b2 gg
 have m2:(U.new b2 (.box [.ah])).box b2=some [.ah]:=aG
 have e1:=bg gg (x:=.box [.ah])
 have f2:=gg.1
 generalize U.new b2 (.box [.ah])=aR at *
 have oU:v.dc=true/\au v=[v]:=by
  rcases hv with ⟨_,rfl⟩ | ⟨c,rfl⟩ <;> exact ⟨rfl,rfl⟩
 refine oQ [.int .u8 1,.str [],.int .i64 0,.int .i64 0,.int .i64 0,.int .i64 0] rfl ?_
 refine oQ (mf 1 [] 0 0 0 v) (by simp [td,oU,ay,mf]) ?_
 rw [fA rfl]
 intro b9 HI
 have m9:(aR.new b9 (.box (au (.agg (mf 1 [] 0 0 0 v))))).box b9=some (mf 1 [] 0 0 0 v):=aG
 have e2:=e1.new HI (x:=.box (au (.agg (mf 1 [] 0 0 0 v))))
 have m2':=(bg HI (x:=.box (au (.agg (mf 1 [] 0 0 0 v))))).aX m2
 generalize aR.new b9 (.box (au (.agg (mf 1 [] 0 0 0 v))))=a7 at *
 refine FR (.inr ⟨b9,rfl,m9⟩) hk (by omega) (fun a l1 h1 h2=>FQ l.length a l1 h1 h2 (by omega)) hv fun bO e3=>?_
 have abj:=e3.aX m2'
 have E3:=e2.trans e3
 simp only [bB]
 have htv:∃ t,t=node 1 [] 0 0 0 l/\t.length=l.length+1:=⟨_,rfl,rfl⟩
 obtain ⟨t,ht,tC⟩:=htv
 rw [<- ht,<- tC]
 refine oQ [.vec t.length .iE (bK t)] rfl ?_
 rw [cz]
 intro b5 jP
 have m5:(bO.new b5 (.box [.ah])).box b5=some [.ah]:=aG
 have n25:=jP.bP abj
 have f5:=E3.fresh jP.1
 have E4:=E3.new jP (x:=.box [.ah])
 have m2n:=(bg jP (x:=.box [.ah])).aX abj
 generalize bO.new b5 (.box [.ah])=cG at *
 rw [cI m5]
 refine ⟨⟨rfl,rfl,by simp⟩,?_⟩
 have g5:(cG.set b5 (.box (ay [.ah] 0 (au (.agg [.vec t.length .iE (bK t)]))))).box b5=some [.vec t.length .iE (bK t)]:=by rw [aV]; rfl
 have g2:(cG.set b5 (.box (ay [.ah] 0 (au (.agg [.vec t.length .iE (bK t)]))))).box b2=some [.ah]:=by rw [aO n25]; exact m2n
 have E5:=E4.set f5 (x:=.box (ay [.ah] 0 (au (.agg [.vec t.length .iE (bK t)]))))
 generalize cG.set b5 (.box (ay [.ah] 0 (au (.agg [.vec t.length .iE (bK t)]))))=di at *
 simp only [aZ,al,cU]
 rw [gz g5,eD,bA]
 simp only [tX,al,eY,bf,aN]
 have cn:t ≠ []:=by rw [ht]; simp [node]
 have eP:∀ x ∈ t,0 <= x.size/\x.size <= 100000:=fun x hx=>by
  have Bj:eA false [.cN (mf 1 [] 0 0 0 v)] t:=by rw [ht]; exact .mk hk hv
  have:=Bj.ad6 x hx
  omega
 have wH:lK t <= t.length:=by rw [ht]; simp [lK,node]
 have XW:closed (.vec t.length .iE (bK t))=true:=by
  have:∀ l:List Nd,cA (bK l)=true:=fun l=>by
   induction l with
   | nil=>rfl
   | cons x l ih=>show cA (db x++bK l)=true; simp [db,cA,closed,ih]
  exact this t
 have hgp:=CM (.inr ⟨_,rfl⟩) XW (by omega) cn eP wH
 have bad:(900 < t.length\/ji t=true)->(dO (some [(0,1)]) (some [AV.ah]) none []).wp K di (fun v21 U=>(aF (some (true,1)) (.box b2 0) v21 U).wp K U (fun _ U=>bq (some (true,1)) (.box b2 0) U fun r0=>ak R (AV.aH [r0,(AV.int .i64 5)]) U) (aa R)) (aa R):=fun hb=>by
  refine oQ [.ah] rfl ?_
  rw [cI g2]
  refine ⟨⟨rfl,rfl,by simp⟩,?_⟩
  rw [oW aV]
  refine ⟨by simp [ay],?_⟩
  have hw:lE l=([],5):=by unfold lE; rw [<- ht,if_pos hb]
  rw [hw] at h
  exact ak.eq (h _ (E5.set f2)) rfl
 have aeX:¬ (900 < t.length\/ji t=true)->(aj (some (true,1)) (.box b5 0) di).wp K di (fun dL U=>(aF (some (true,1)) (.box b2 0) dL U).wp K U (fun _ U=>bq (some (true,1)) (.box b2 0) U fun r0=>ak R (AV.aH [r0,(AV.int .i64 0)]) U) (aa R)) (aa R):=fun hb=>by
  rw [o5 g5]
  refine ⟨by simp,?_⟩
  rw [cI g2]
  refine ⟨⟨rfl,rfl,by simp⟩,?_⟩
  rw [oW aV]
  refine ⟨by simp [ay],?_⟩
  have hw:lE l=(t,0):=by unfold lE; rw [<- ht,if_neg hb]
  rw [hw] at h
  refine ak.eq (h _ (E5.set f2)) ?_
  simp [ay,eT,cn]
 by_cases h9:900 < t.length
 . have h9':(900:Int) < t.length:=by omega
   simp only [h9',du,show (true == false)=false from rfl,cF,aM,if_true,al,bE]
   exact bad (.inl h9)
 . have h9':¬ (900:Int) < t.length:=by omega
   simp only [h9',eB,gR,cx,yb g5,mj,zX,aM,bU,if_false,al]
   refine ⟨by simp,_,hgp,?_⟩
   cases hg:ji t with
   | true=>simp only [bE]; exact bad (.inr hg)
   | false=>simp only [bm]; exact aeX (by rw [hg]; simp [h9])
end Go.Rip
