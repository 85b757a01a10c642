/- Lemmas for the proof: no conditions. -/
import Derived.Test.YtnfpmiiopiinbaaGreatDoorRipZz
import Derived.Test.YtnfpmiiopiinbaaGreatDoorRipO
import Derived.Test.YtnfpmiiopiinbaaGreatDoorRipP
import Derived.Test.YtnfpmiiopiinbaaGreatDoorRipI
import Derived.Test.YtnfpmiiopiinbaaGreatDoorRipK
set_option linter.unusedVariables false
set_option linter.unusedSimpArgs false
set_option linter.loopingSimpArgs false
namespace Go.Rip
open Go.Proofs Go.RowKit
def cG (x:Nd):List AV:=[.int .u8 x.kind,.str x.text,.int .i64 x.n,.int .i64 x.m,.int .i64 x.at_,.int .i64 x.size]
def cH (l:List Nd):List AV:=l.flatMap cG
theorem tX (L:List Nd):(cH L).length=6 * L.length:=by
 induction L with
 | nil=>rfl
 | cons t L ih =>
   have:(cH (t::L)).length=6+(cH L).length:=by simp [cH,cG]; omega
   rw [this,ih,jf]; omega
theorem M6 (L:List Nd) (i:Nat):(cH L).drop (i * 6)=cH (L.drop i):=by
 induction L generalizing i with
 | nil=>simp [cH]
 | cons t L ih =>
   cases i with
   | zero=>simp
   | succ i =>
     rw [Nat.add_mul,show i * 6+1 * 6=6+i * 6 by omega,<- List.drop_drop,List.drop_succ_cons,<- ih]
     rfl
theorem uX {L:List Nd} {i:Nat} {t:Nd} (h:L[i]?=some t):∃ r,(cH L).drop (i * 6)=cG t++r:=by
 rw [M6,gl (c8.1 h).1]
 refine ⟨cH (L.drop (i+1)),?_⟩
 have:=(c8.1 h).2
 simp [cH,this]
section
variable {C:cq} {U:St} {K':AV->St->Prop} {Kp:AV->St->Prop} {e sz n b m:Nat} {L l2 z:List AV} {y:AV}
theorem P6 {ps:List (Nat × AV)}:(aq (some (e,sz)) (some z) n true ps).wp C U K' Kp=(n * sz <= 16777216/\(fm (fun i=>some (i * sz,sz)) ps (bF n z) fun cs=>.cond (cs.length=n * sz) (.nF n sz e none cs)).wp C U K' Kp):=by
 simp only [aq,if_true]; rfl
theorem VE {pl:Nat->Option (Nat × Nat)} {k:Nat}:(fm pl [] L fun cs=>.cond (cs.length=k) (.nF n sz e none cs)).wp C U K' Kp=(L.length=k/\∀ b,U.cY b->K' (.ms b 0 n sz e) (U.new b (.box L))):=rfl
theorem Z9 {mu:Bool} (hb:U.box b=some L) (hy:pO U y=some (m,l2)) (h:l2.length=m * sz/\n * sz <= L.length/\n+m <= 4294967296) (hk:∀ b',(U.del b).cY b'->K' (.ms b' 0 (n+m) sz e) ((U.del b).new b' (.box (L.take (n * sz)++l2)))):(ez (some (e,sz)) mu (.ms b 0 n sz e) y U).wp C U K' Kp:=by
 simp only [ez,hy,hb,wp_cond]
 exact ⟨h.1,⟨trivial,trivial,trivial,h.2.1,h.2.2⟩,hk⟩
end
theorem eK.split {ks:List AV} {l:List Nd} {a:AV} {i:Nat} (h:eK true (ks.drop i) l) (ha:ks[i]?=some a):∃ l1 l2,l=l1++l2/\eK false [a] l1/\eK true (ks.drop (i+1)) l2:=by
 obtain ⟨aO,rfl⟩:=c8.1 ha
 rw [gl aO] at h
 generalize hb:true=b at h
 generalize hl:ks[i]::ks.drop (i+1)=la at h
 cases h with
 | mk _ _=>cases hb
 | nil=>cases hl
 | cons h1 h2=>cases hl; exact ⟨_,_,rfl,h1,h2⟩
theorem eK.le:∀ {ks:List AV} {l:List Nd},eK true ks l->ks.length <= l.length
 | [],_,_=>by simp
 | a::ks,l,h=>by
   obtain ⟨l1,l2,rfl,h1,h2⟩:=eK.split (ks:=a::ks) (a:=a) (i:=0) h rfl
   obtain ⟨x,r,e,_⟩:=h1.size
   have:=eK.le (ks:=ks) h2
   rw [e]; simp; omega
end Go.Rip
namespace Go.Rip
open Go.Proofs Go.RowKit
theorem dA.atN {v:AV} {l:List Nd} (h:dA v l.length (cH l)) {i:Nat} {x:Nd} (hx:l[i]?=some x) {e:Nat}:∃ r,aG (some (e,6)) none v (.int .i64 (i:Int))=.cond (0 <= (i:Int)/\(i:Int) < l.length) (.val (.cn (cG x++r))):=by
 obtain ⟨c,rfl,q9⟩:=h.at (sz:=6) (e:=e) (c8.1 hx).1
 obtain ⟨r,hr⟩:=uX hx
 exact ⟨r,by rw [q9,hr]⟩
section
variable {C:cq} {U:St} {K':AV->St->Prop} {Kp:AV->St->Prop} {k:AV->Prop} {v:AV} {l:List Nd} {i e:Nat} {x:Nd}
theorem CV (h:dA v l.length (cH l)) (hx:l[i]?=some x) (hk:∀ r,K' (.cn (cG x++r)) U):(aG (some (e,6)) none v (.int .i64 (i:Int))).wp C U K' Kp:=by
 obtain ⟨r,hr⟩:=h.atN hx (e:=e)
 rw [hr]
 have:=(c8.1 hx).1
 exact ⟨by omega,hk r⟩
theorem Ae (h:dA v l.length (cH l)) (hx:l[i]?=some x) (hk:∀ r,k (.cn (cG x++r))):ax C (aG (some (e,6)) none v (.int .i64 (i:Int))) k:=by
 obtain ⟨r,hr⟩:=h.atN hx (e:=e)
 rw [hr]
 have:=(c8.1 hx).1
 exact ⟨by omega,hk r⟩
end
theorem dA.cQ {v:AV} {n:Nat} {cs:List AV} (h:dA v n cs):v.cQ=true/\au v=[v]:=by
 rcases h with ⟨rfl,rfl,rfl⟩ | ⟨c,rfl⟩ <;> exact ⟨rfl,rfl⟩
theorem p8 {U:St} {R:cA->St->Prop} {v:AV} {l:List Nd} {n:Nat} {x:Nd} (hv:dA v l.length (cH l)) (hx:l[n]?=some x) (h64:uo ((n:Int)+x.size))
 (h:∀ bn be bt ad,bn ≠ be->bn ≠ bt->be ≠ bt->U.live bn=none->U.live be=none->U.live bt=none->ad.box bn=some [.int .i64 (n:Nat)]->ad.box be=some [.int .i64 ((n:Int)+x.size)]->ad.box bt=some [v]->cN U ad->R (.ret (.func (.func 155) [] [.box bn 0,.box be 0,.box bt 0])) ad):ae K 81 [.agg [v],.int .i64 (n:Nat)] U R:=by
 refine R3 ?_
 unfold TW
 rw [er rfl]
 intro bt hbt
 rw [er rfl]
 intro bn Me
 have mt:(U.new bt (.box (au (.agg [v])))).box bt=some [v]:=aK
 have e1:=a7 hbt (x:=.box (au (.agg [v])))
 have fr1:U.live bt=none:=hbt.1
 generalize U.new bt (.box (au (.agg [v])))=aP at *
 have e2:=a7 Me (x:=.box (au (.int .i64 (n:Nat))))
 have mn:(aP.new bn (.box (au (.int .i64 (n:Nat))))).box bn=some [.int .i64 (n:Nat)]:=aK
 have ntn:=Me.bK mt
 have fr2:U.live bn=none:=e1.fresh Me.1
 generalize aP.new bn (.box (au (.int .i64 (n:Nat))))=aZ at *
 have YF:=e2.aS mt
 simp only [pI mn,dJ,fi,bg,aC,cV,pI YF]
 refine Ae hv hx fun r=>?_
 simp only [cU,aC,cG,ib,List.drop,l9,fi,KI]
 refine ⟨h64,?_⟩
 rw [cS]
 intro be uE
 have e3:=a7 uE (x:=.box [.int .i64 0])
 have me:(aZ.new be (.box [.int .i64 0])).box be=some [.int .i64 0]:=aK
 have YM:=uE.bK mn
 have YP:=uE.bK YF
 have fr3:U.live be=none:=(e1.trans e2).fresh uE.1
 refine ⟨?_,?_⟩
 . intro b hb
   simp only [cM,kK,ia,cD,fB,List.not_mem_nil,or_false] at hb
   have:b=bn\/b=bt:=by
    rcases hb with h | h | h <;> simp_all
   rw [kH]
   rcases this with rfl | rfl
   . rw [if_neg YM]
   . rw [if_neg YP]
 . rw [cX me]
   refine ⟨⟨rfl,rfl,by simp⟩,ak.mk (h bn be bt _ YM ntn.symm YP.symm fr2 fr3 fr1 ?_ ?_ ?_ ((e1.trans (e2.trans e3)).set fr3))⟩
   . rw [aN YM]; exact e3.aS mn
   . rw [aW]; rfl
   . rw [aN YP]; exact e3.aS YF
theorem vL (l:List Nd) (en:Int):∀ (f p:Nat),(ee l en f p).length <= f
 | 0,_=>by simp [ee]
 | f+1,p=>by
   simp only [ee]
   split
   . split
     . have:=vL l en f (p+(Nd.size ‹_›).toNat)
       simp; omega
     . simp
   . simp
theorem rF {v:AV} {l:List Nd} {n:Nat} {en:Int} {bn be bt:Nat} {U:St} {B:AV->Qr->St->Prop} {Kn:St->Prop} {Ke:Nat->St->Prop} {Kr:St->Prop} {Kp:AV->St->Prop} (I:List Nat->St->Prop) (J:St->Prop)
 (hv:dA v l.length (cH l)) (hn:n < l.length) (hlen:l.length <= 100000) (FC:en <= l.length)
 (zY:∀ ks U,I ks U->U.box bn=some [.int .i64 (n:Nat)]/\U.box be=some [.int .i64 en]/\U.box bt=some [v])
 (Ba:∀ ks U o L L',I ks U->U.loop o=some L->I ks (U.set o (.loop L')))
 (oN:∀ ks U o L,I ks U->U.cY o->I ks (U.new o (.loop L)))
 (hJ:∀ U o L L',J U->U.loop o=some L->J (U.set o (.loop L')))
 (body:∀ (ks:List Nat) (fh:Nat) (x:Nd) (aP:St) (o:Nat) (L1:eG) (q:Qr),I ks aP->l[fh]?=some x->(fh:Int) < en->0 < x.size->n < fh->ks.length < l.length->(∃ r,ee l en l.length (n+1)=ks++fh::r)->aP.loop o=some L1 ->
   (∀ aZ,I (ks++[fh]) aZ->x.size <= 100000->aZ.loop o=some L1->q.n aZ)->(∀ aZ,J aZ->aZ.loop o=some L1->q.r aZ)->B (.int .i64 (fh:Nat)) q aP)
 (fin:∀ ks aP o L,ks=ee l en l.length (n+1)->I ks aP->aP.loop o=some L->Kn (aP.del o))
 (QG:∀ aP o L,J aP->aP.loop o=some L->Kr (aP.del o))
 (h0:I [] U):nq K 1 (.func (.func 155) [] [.box bn 0,.box be 0,.box bt 0]) U (fun v q U=>q.xU (fun U=>B v q U) U) Kn Ke Kr Kp:=by
 refine ⟨by kernel_rfl,fun o L ho Fw Md Y=>?_⟩
 have I1:=oN _ _ o L h0 ho
 have L8:=tW (U:=U) (b:=o) (L:=L)
 generalize U.new o (.loop L)=aP at *
 refine DT ?_
 unfold GN
 rw [fW (zY _ _ I1).1,dJ,bE,dr]
 refine ⟨bw (by omega) (by omega),?_⟩
 refine ⟨fun m v0 v2 v3 v5 ad=>∃ ks f p,m=l.length - p/\v0=.pX o/\v2=.box be 0/\v3=.box bt 0/\v5=.int .i64 (p:Nat)/\n < p/\p <= 300000/\l.length - p <= f/\ks++ee l en f p=ee l en l.length (n+1)/\I ks ad/\∃ L1,ad.loop o=some L1/\L1.st .ready none=L/\L1.state=.ready/\L1.fe=none,
  ⟨_,[],l.length,n+1,rfl,rfl,rfl,rfl,by simp,by omega,by omega,by omega,rfl,I1,L,L8,by cases L; simp_all [eG.st],Fw,Md⟩,?_⟩
 clear I1 L8
 rintro m v0 v2 v3 v5 aZ ⟨ks,f,p,rfl,rfl,rfl,rfl,rfl,Yi,hp3,hf,gh,I2,L1,hU,fg,zp,zn⟩
 obtain ⟨k1,k2,k3⟩:=zY _ _ I2
 rw [fW k2,dJ,bE]
 simp only [bP,al,aU,aI]
 have stop:ee l en f p=[]->ak (GH o Kn Ke Kr Kp) (.aF []) aZ:=fun h=>by
  rw [h,ia] at gh
  refine ak.mk ⟨L1,hU,by rw [zp]; simp,?_⟩
  rw [zn]
  exact fin ks aZ o L1 gh I2 hU
 by_cases aO:(p:Int) < en
 . have k9:p < l.length:=by omega
   obtain ⟨x,hx⟩:∃ x,l[p]?=some x:=⟨l[p],by simp [k9]⟩
   cases f with
   | zero=>omega
   | succ f =>
   have uK:ee l en (f+1) p=if 0 < x.size then p::ee l en f (p+x.size.toNat) else []:=by
    simp only [ee,hx,aO,true_and]
   simp only [aO,da,gm,bQ,aC,bg,cV,pI k3,dJ,fi,lr]
   refine Ae hv hx fun r=>?_
   simp only [cU,aC,lr,cG,ib,List.drop,l9,fi,dO,aL,if_true,al,bR]
   refine ⟨fun hs=>?_,fun hs=>?_⟩
   . rw [if_pos hs] at uK
     simp only [gr,wA]
     refine Y _ _ _ L1 rfl hU fg ?_
     refine ⟨L1,hU,zp,?_⟩
     have I3:=Ba _ _ o L1 { L1 with state:=.busy } I2 hU
     have qD:ks.length < l.length:=by
      have:=vL l en l.length (n+1)
      rw [<- gh,uK] at this
      simp at this; omega
     refine body ks p x _ o { L1 with state:=.busy } _ I3 hx aO hs Yi qD ⟨_,by rw [<- gh,uK]⟩ eT (fun bZ I4 xM qY=>?_) fun bZ XE qY=>?_
     . refine ⟨_,qY,?_⟩
       have I5:=Ba _ _ o _ { L1 with state:=.ready,fe:=none } I4 qY
       obtain ⟨j1,j2,j3⟩:=zY _ _ I5
       simp only [bu,dR,al,cI,bq,bg,cV]
       rw [fW j3,dJ,bE]
       refine CV hv hx fun r=>?_
       simp only [cU,al,cG,ib,List.drop,oB,bE,dr]
       refine ⟨bw (by omega) (by omega),_,?_,ks++[p],f,p+x.size.toNat,rfl,rfl,rfl,rfl,?_,by omega,by omega,by omega,?_,I5,_,eT,by rw [<- fg]; rfl,rfl,rfl⟩
       . omega
       . congr 1; omega
       . rw [<- gh,uK]; simp
     . refine ⟨_,qY,?_⟩
       simp only [bu,dR,al,eA,bH]
       refine ak.mk ⟨_,eT,by simp,?_⟩
       exact QG _ o _ (hJ _ o _ _ XE qY) eT
   . rw [if_neg hs] at uK
     exact stop uK
 . simp only [aO,dN,show (false == true)=false from rfl,bV,aL,bJ,if_false,al,bq]
   refine stop ?_
   cases f with
   | zero=>rfl
   | succ f =>
     simp only [ee]
     split
     . rw [if_neg (fun h=>aO h.1)]
     . rfl
end Go.Rip
namespace Go.Rip
open Go.Proofs Go.RowKit
def n7 (ao U:St) (v:AV) (es:List Int):Prop:=(es=[]/\v=.aw)\/∃ b jQ,v=.ms b 0 es.length 1 3/\U.box b=some (es.map (.int .i64)++jQ)/\ao.live b=none
section
variable {ao U:St} {R:cA->St->Prop} {K':AV->St->Prop} {Kp:AV->St->Prop}
theorem Tm {b:Nat} {n a:Int} (hb:U.box b=some [.int .i64 n]) (h:R (.ret (.bool (decide (a <= n)))) U):ae K 133 [.int .i64 a,.box b 0] U R:=by
 refine N8 ?_
 unfold N7
 rw [fW hb,dJ,bE]
 simp only [kG,al]
 exact ak.mk h
theorem acn {b:Nat} {L:List AV} {es:List Int} {jQ:List AV} (h:U.box b=some L) (hL:L=es.map (.int .i64)++jQ) {i n:Nat} (hi:i < es.length) (hn:i < n) (hk:K' (.int .i64 es[i]) U) :
 (aG (some (3,1)) none (.ms b 0 n 1 3) (.int .i64 (i:Nat))).wp K U (fun v U=>(ah (some (false,1)) v U).wp K U K' Kp) Kp:=by
 rw [EI]
 refine ⟨⟨by omega,by omega,rfl⟩,?_⟩
 rw [fW h]
 have:L.drop (0+(i:Int).toNat * 1)=.int .i64 es[i]::((es.map (AV.int .i64)).drop (i+1)++jQ):=by
  rw [hL,gb,Nat.mul_one,cV,List.drop_append_of_le_length (by simp; omega),gl (by simpa using hi)]
  simp
 rw [this,bE]
 exact hk
theorem Dt {b bn:Nat} {es:List Int} {jQ:List AV} {n:Int} (hb:U.box b=some (es.map (.int .i64)++jQ)) (hn:U.box bn=some [.int .i64 n]) (hl:es.length <= 100000)
 (h:(∃ k,k < es.length/\(es.take k).all (fun a=>decide (n < a))=true/\(∃ hk:k < es.length,es[k] <= n)/\R (.ret (.int .i64 (k:Nat))) U)\/(es.all (fun a=>decide (n < a))=true/\R (.ret (.int .i64 (-1))) U)) :
 ae K 210 [.ms b 0 es.length 1 3,.func (.func 133) [] [.box bn 0]] U R:=by
 refine DW ?_
 unfold GQ
 simp only [MV,al]
 refine ⟨fun m v0 v1 v7 v8 ad=>∃ i:Nat,m=es.length - i/\i <= es.length/\v0=.ms b 0 es.length 1 3/\v1=.func (.func 133) [] [.box bn 0]/\v7=.int .i64 es.length/\v8=.int .i64 i/\ad=U/\(es.take i).all (fun a=>decide (n < a))=true,⟨_,0,rfl,by omega,rfl,rfl,rfl,rfl,rfl,by simp⟩,?_⟩
 rintro m v0 v1 v7 v8 ad ⟨i,rfl,hi,rfl,rfl,rfl,rfl,rfl,bO⟩
 simp only [bP,al,bR]
 have Df:∀ (k:Nat) (hk:k < es.length),(es.take i).all (fun a=>decide (n < a))=true->k < i->n < es[k]:=fun k hk ha Iw=>by
  rw [eC] at ha
  have:es[k] ∈ es.take i:=by
   rw [List.mem_iff_getElem]
   exact ⟨k,by simp; omega,by simp⟩
  simpa using ha _ this
 refine ⟨fun aO=>?_,fun jo=>?_⟩
 . have aO:i < es.length:=by omega
   refine acn hb rfl aO aO ?_
   simp only [gr,show dU K.P 133=true by kernel_rfl,if_true,jW,kK,ib]
   refine Tm hn ?_
   simp only [bu,bR]
   refine ⟨fun hle=>?_,fun xG=>?_⟩
   . rcases h with ⟨k,hk,pv,⟨_,fD⟩,hR⟩ | ⟨hA,_⟩
     . have:k=i:=by
        rcases Nat.lt_trichotomy k i with h | h | h
        . have:=Df k hk bO h; omega
        . exact h
        . rw [eC] at pv
          have hm:es[i] ∈ es.take k:=by
           rw [List.mem_iff_getElem]
           exact ⟨i,by simp; omega,by simp⟩
          have:=pv _ hm
          simp at this; omega
       subst this
       exact ak.mk hR
     . rw [eC] at hA
       have:=hA es[i] (List.getElem_mem aO)
       simp at this; omega
   . rw [dr]
     refine ⟨bw (by omega) (by omega),es.length - (i+1),by omega,i+1,rfl,by omega,rfl,rfl,rfl,by simp,rfl,?_⟩
     rw [qU,nj aO,List.all_append,bO]
     simp; omega
 . have hi:i=es.length:=by omega
   subst hi
   rw [sE] at bO
   rcases h with ⟨k,hk,pv,⟨_,fD⟩,hR⟩ | ⟨_,hR⟩
   . rw [eC] at bO
     have:=bO es[k] (List.getElem_mem hk)
     simp at this; omega
   . exact ak.mk hR
theorem Da:∀ (es:List Int) (n:Int),(∃ k,∃ hk:k < es.length,(es.take k).all (fun a=>decide (n < a))=true/\es[k] <= n)\/es.all (fun a=>decide (n < a))=true
 | [],n=>.inr rfl
 | a::es,n=>by
   by_cases ha:n < a
   . rcases Da es n with ⟨k,hk,h1,h2⟩ | h
     . exact .inl ⟨k+1,by simp; omega,by simp [ha,h1],by simpa using h2⟩
     . exact .inr (by simp [ha,h])
   . exact .inl ⟨0,by simp,by simp,by simp; omega⟩
theorem LJ {v:AV} {bn:Nat} {es:List Int} {n:Int} (hv:n7 ao U v es) (hn:U.box bn=some [.int .i64 n]) (hl:es.length <= 100000) (hE:cN ao U) (Me:∀ b,ao.live b=none->v=.ms b 0 es.length 1 3->bn ≠ b)
 (h:∀ ad v',n7 ao ad v' (es.filter (n < ·))->cN ao ad->(∀ b x,(∀ k,v ≠ .ms b 0 k 1 3)->U.box b=some x->ad.box b=some x)->(∀ b k,v'=.ms b 0 k 1 3->v=.ms b 0 es.length 1 3)->R (.ret v') ad):ae K 132 [v,.func (.func 133) [] [.box bn 0]] U R:=by
 refine N6 ?_
 unfold N5
 rcases hv with ⟨rfl,rfl⟩ | ⟨b,jQ,rfl,hb,zh⟩
 ·
  have acP:ae K 210 [.aw,.func (.func 133) [] [.box bn 0]] U (ag (fun v10 U =>
   (ar .eql (BT.mk false false false none false) true v10 (AV.int .i64 (-1))).wp K U (fun v12 U=>av v12 (ak R .aw U) False) (aa R)) (aa R)):=by
   refine DW ?_
   unfold GQ
   simp only [len_nil,al]
   refine ⟨fun m v0 v1 v7 v8 ad=>v7=.int .i64 0/\v8=.int .i64 0/\ad=U,⟨0,rfl,rfl,rfl⟩,?_⟩
   rintro m v0 v1 v7 v8 ad ⟨rfl,rfl,rfl⟩
   simp only [bP,al,show decide ((0:Int) < 0)=false from rfl,bq]
   refine ak.mk ?_
   simp only [bu,bj,al,da,bH]
   exact ak.mk (h ad .aw (.inl ⟨rfl,rfl⟩) hE (fun _ _ _ h=>h) (fun _ _ e=>by cases e))
  refine acP.mono fun r ad hr=>?_
  cases r with
  | panic x=>exact hr
  | ret x =>
    simp only [bu] at hr ⊢
    refine aD.wp_mono (fun v U hv=>?_) _ hr
    cases v <;> simp only [av] at hv ⊢
    exact ⟨hv.1,fun e=>(hv.2 e).elim⟩
 . have XH:bn ≠ b:=Me b zh rfl
   rcases Da es n with ⟨k,hk,pv,fD⟩ | bO
   . refine Dt hb hn hl (.inl ⟨k,hk,pv,⟨hk,fD⟩,?_⟩)
     have hkn:¬ ((k:Nat):Int)=-1:=by omega
     simp only [bu,bj,al,hkn,dN,bq,dr]
     refine ⟨bw (by omega) (by omega),?_⟩
     have SN:(es.take (k+1)).filter (n < ·)=es.take k:=by
      rw [qU,nj hk,List.filter_append]
      have h1:(es.take k).filter (n < ·)=es.take k:=by
       rw [List.filter_eq_self]
       intro a ha
       rw [eC] at pv
       exact pv a ha
      rw [h1]
      have:¬ n < es[k]:=by omega
      simp [this]
     refine ⟨fun m v0 v1 v5 v6 ad=>∃ (i j:Nat) (arr:List AV),m=es.length - j/\v0=.ms b 0 es.length 1 3/\v1=.func (.func 133) [] [.box bn 0]/\v5=.int .i64 (i:Nat)/\v6=.int .i64 (j:Nat)/\j <= es.length/\i < j/\ad.box b=some arr/\arr.take i=((es.take j).filter (n < ·)).map (.int .i64)/\i=((es.take j).filter (n < ·)).length/\arr.drop j=(es.drop j).map (.int .i64)++jQ/\arr.length=es.length+jQ.length/\(∀ c,c ≠ b->ad.live c=U.live c),
      ⟨_,k,k+1,es.map (.int .i64)++jQ,rfl,rfl,rfl,rfl,by simp,by omega,by omega,hb,?_,?_,?_,by simp,fun _ _=>rfl⟩,?_⟩
     . rw [SN,List.take_append_of_le_length (by simp; omega),<- List.map_take]
     . rw [SN]; simp; omega
     . rw [List.drop_append_of_le_length (by simp; omega),<- List.map_drop]
     . rintro m v0 v1 v5 v6 ad ⟨i,j,arr,rfl,rfl,rfl,rfl,rfl,hj,fJ,eH,SI,XG,ha3,ha4,o1⟩
       simp only [MV,al,bP,bR]
       refine ⟨fun aO=>?_,fun jo=>?_⟩
       . have aO:j < es.length:=by omega
         intro jj zk
         have Yd:ad.box bn=some [.int .i64 n]:=by rw [dP (o1 bn XH)]; exact hn
         rw [EI]
         refine ⟨⟨by omega,by omega,rfl⟩,?_⟩
         rw [fW eH]
         obtain ⟨rr,hd⟩:∃ rr,arr.drop (0+(j:Int).toNat * 1)=.int .i64 es[j]::rr:=by
          rw [gb,Nat.mul_one,cV,ha3,gl aO,dV]
          exact ⟨_,rfl⟩
         rw [hd,bE]
         simp only [gr,show dU K.P 133=true by kernel_rfl,if_true,jW,kK,ib]
         refine Tm Yd ?_
         have py:es.take (j+1)=es.take j++[es[j]]:=by rw [qU,nj aO]; rfl
         have zj:arr.drop (j+1)=(es.drop (j+1)).map (.int .i64)++jQ:=by
          rw [<- List.drop_drop,ha3,gl aO,dV]; rfl
         simp only [bu,dR,al]
         by_cases hle:es[j] <= n
         . simp only [hle,da,cI,bq]
           refine zk _ _ _ _ _ ?_
           simp only [dr]
           refine ⟨bw (by omega) (by omega),es.length - (j+1),by omega,i,j+1,arr,rfl,rfl,rfl,rfl,by simp,by omega,by omega,eH,?_,?_,zj,ha4,o1⟩
           . rw [py,List.filter_append,SI]
             have:¬ n < es[j]:=by omega
             simp [this]
           . rw [py,List.filter_append]
             have:¬ n < es[j]:=by omega
             simp only [List.filter_cons,this,dN,bJ,if_false,List.filter_nil,ia]
             exact XG
         . simp only [hle,dN,eA,bH]
           rw [EI]
           refine ⟨⟨by omega,by omega,rfl⟩,?_⟩
           rw [cX eH]
           refine ⟨⟨rfl,rfl,by simp; omega⟩,?_⟩
           rw [dr]
           refine ⟨bw (by omega) (by omega),?_⟩
           refine zk _ _ _ _ _ ?_
           simp only [dr]
           have IF:aB arr (0+(i:Int).toNat * 1) (au (.int .i64 es[j]))=arr.take i++[.int .i64 es[j]]++arr.drop (i+1):=by
            simp [aB]
           have FL:(arr.take i).length=i:=by simp; omega
           refine ⟨bw (by omega) (by omega),es.length - (j+1),by omega,i+1,j+1,_,rfl,rfl,rfl,by simp,by simp,by omega,by omega,aW,?_,?_,?_,?_,fun c hc=>by rw [cR,if_neg hc]; exact o1 c hc⟩
           . rw [IF,List.take_append_of_le_length (by simp; omega),pL (by simp; omega),SI,py,List.filter_append]
             have:n < es[j]:=by omega
             simp [this]
           . rw [py,List.filter_append]
             have:n < es[j]:=by omega
             simp only [List.filter_cons,this,da,if_true,List.filter_nil,dh,jf,oQ]
             omega
           . rw [IF,<- zj]
             rw [List.drop_append,List.drop_eq_nil_of_le (by simp; omega),kK,List.drop_drop]
             congr 1
             simp
             omega
           . rw [IF]; simp; omega
       . have hje:j=es.length:=by omega
         subst hje
         rw [sE] at SI XG
         simp only [eI,dt,wp_cond,al]
         refine ⟨⟨by omega,by omega,by omega,by omega,trivial⟩,?_⟩
         simp only [AI,eH,wp_cond,kB]
         refine ⟨⟨trivial,by simp; omega⟩,⟨by omega,by omega,by omega,by simp,trivial⟩,?_⟩
         refine ak.mk (h _ _ (.inr ⟨b,(aB arr (0+(i:Int).toNat * 1) (bF ((es.length:Int).toNat - (i:Int).toNat) [.int .i64 0])).drop i,?_,?_,zh⟩) ?_ ?_ ?_)
         . simp [XG]
         . rw [aW]
           congr 1
           have hz:(bF (es.length - i) [AV.int .i64 0]).length=es.length - i:=by simp [kf]
           simp only [gb,Nat.mul_one,cV]
           conv=>lhs; rw [<- List.take_append_drop i (aB arr i _)]
           congr 1
           simp only [aB,iM]
           rw [List.take_append_of_le_length (by simp; omega),pL (by simp; omega)]
           exact SI
         . refine cN.set (fun c x e=>?_) zh
           by_cases hc:c=b
           . subst hc; rw [zh] at e; cases e
           . rw [o1 c hc]; exact hE c x e
         . intro c x hc hx
           have hcb:c ≠ b:=fun e=>hc es.length (by rw [e])
           rw [aN hcb,dP (o1 c hcb)]; exact hx
         . intro c k e
           simp only [AV.ms.injEq] at e
           rw [e.1]
   . refine Dt hb hn hl (.inr ⟨bO,?_⟩)
     simp only [bu,bj,al,da,bH]
     have hf:es.filter (n < ·)=es:=by
      rw [List.filter_eq_self]
      intro a ha
      rw [eC] at bO
      exact bO a ha
     exact ak.mk (h U _ (by rw [hf]; exact .inr ⟨b,jQ,rfl,hb,zh⟩) hE (fun _ _ _ h=>h) (fun b' k e=>by cases e; rfl))
end
end Go.Rip
namespace Go.Rip
open Go.Proofs Go.RowKit
section
variable {ao U:St} {R:cA->St->Prop} {K':AV->St->Prop} {Kp:AV->St->Prop} {v:AV} {es:List Int}
theorem Qu (h:n7 ao U v es):cj (some false) v=.val (.int .i64 es.length):=by
 rcases h with ⟨rfl,rfl⟩ | ⟨b,jQ,rfl,_,_⟩ <;> rfl
theorem Qt {bx:Nat} {a:Int} (hv:n7 ao U v es) (hy:U.box bx=some [.int .i64 a]) (E:cN ao U) (hl:es.length <= 100000) (h:∀ ad v',n7 ao ad v' (es++[a])->cN ao ad->K' v' ad) :
 (ez (some (3,1)) true v (.ms bx 0 1 1 3) U).wp K U K' Kp:=by
 have J2:pO U (.ms bx 0 1 1 3)=some (1,[.int .i64 a]):=by simp [pO,hy]
 rcases hv with ⟨rfl,rfl⟩ | ⟨b,jQ,rfl,hb,zh⟩
 . simp only [ez,J2,wp_cond]
   refine ⟨rfl,by omega,fun b hf=>?_⟩
   exact h _ _ (.inr ⟨b,[],rfl,by rw [show U.qO none=U from rfl]; exact aK,E.fresh hf.1⟩) (E.new hf)
 . refine Z9 hb J2 ⟨rfl,by simp,by omega⟩ fun b' hf=>?_
   refine h _ _ (.inr ⟨b',[],by simp,?_,?_⟩) ((E.del zh).new hf)
   . rw [aK]; simp
   . have hd:=hf.1
     by_cases e:b'=b
     . rw [e]; exact zh
     . rw [jd,if_neg e] at hd; exact E.fresh hd
end
theorem JM {v:AV} {l:List Nd} (hv:dA v l.length (cH l)) (hc:closed v=true) (hl:l.length <= 100000) (h0:l ≠ []) (hs:∀ x ∈ l,0 <= x.size/\x.size <= 100000) (xK:mL l <= l.length):Pure K 69 [.agg [v]] (.bool (rZ l)):=by
 refine Pure.of (by simp [bY,closed,hc]) rfl (fun U=>rfl) fun R hR=>?_
 refine RV ?_
 unfold TO
 rw [er rfl]
 intro b1 fX
 have m1:((bC ⟨.e,0⟩).new b1 (.box (au (.agg [v])))).box b1=some [v]:=aK
 generalize (bC _).new b1 _=ao at *
 clear fX
 simp only [bg,al,cV]
 rw [fW m1,dJ,bE,hv.len,al]
 refine ⟨fun m v1 v2 v3 v8 v9 v10 ad=>∃ (i:Nat) (es:List Int),m=l.length - i/\v1=.box b1 0/\v2=.bool false/\v8=v/\v9=.int .i64 l.length/\v10=.int .i64 (i:Nat)/\i <= l.length/\n7 ao ad v3 es/\es.length <= i/\jm (l.drop i) i es=jm l 0 []/\cN ao ad,
  ⟨_,0,[],rfl,rfl,rfl,rfl,rfl,rfl,by omega,.inl ⟨rfl,rfl⟩,by simp,rfl,cN.refl _⟩,?_⟩
 rintro m v1 v2 v3 v8 v9 v10 aP ⟨i,es,rfl,rfl,rfl,rfl,rfl,rfl,hi,xF,XS,hg,E1⟩
 simp only [bP,al,bR]
 refine ⟨fun aO=>?_,fun jo=>?_⟩
 . have aO:i < l.length:=by omega
   obtain ⟨x,hx⟩:∃ x,l[i]?=some x:=⟨l[i],by simp [aO]⟩
   have AY:l.drop i=x::l.drop (i+1):=by
    rw [gl aO]
    have:=(c8.1 hx).2
    rw [this]
   rw [AY,jm] at hg
   refine CV hv hx fun r=>?_
   rw [vb]
   refine ⟨by simp [cG],?_⟩
   have Fy:(cG x++r).take 6=cG x:=by simp [cG]
   rw [Fy,cS]
   intro b4 gu
   rw [cS]
   intro b5 iH
   have m4:(aP.new b4 (.box [.int .i64 0])).box b4=some [.int .i64 0]:=aK
   have ra:=iH.bK m4
   have f4:=E1.fresh gu.1
   have E2:=E1.new gu (x:=.box [.int .i64 0])
   have QW:n7 ao (aP.new b4 (.box [.int .i64 0])) v3 es/\(∀ b,v3=.ms b 0 es.length 1 3->b4 ≠ b):=by
    rcases xF with h | ⟨b,jQ,rfl,h2,h3⟩
    . exact ⟨.inl h,fun b e=>by rw [h.2] at e; cases e⟩
    . have:=gu.bK h2
      exact ⟨.inr ⟨b,jQ,rfl,by rw [pj this]; exact h2,h3⟩,fun b' e=>by cases e; exact this.symm⟩
   obtain ⟨QW,Q2⟩:=QW
   clear xF
   generalize aP.new b4 (.box [.int .i64 0])=aZ at *
   have m5:(aZ.new b5 (.box [AV.int .u8 0,AV.str [],AV.int .i64 0,AV.int .i64 0,AV.int .i64 0,AV.int .i64 0])).box b5=some [AV.int .u8 0,AV.str [],AV.int .i64 0,AV.int .i64 0,AV.int .i64 0,AV.int .i64 0]:=aK
   have f5:=E2.fresh iH.1
   have E3:=E2.new iH (x:=.box [AV.int .u8 0,AV.str [],AV.int .i64 0,AV.int .i64 0,AV.int .i64 0,AV.int .i64 0])
   have m4':=(a7 iH (x:=.box [AV.int .u8 0,AV.str [],AV.int .i64 0,AV.int .i64 0,AV.int .i64 0,AV.int .i64 0])).aS m4
   have QX:n7 ao (aZ.new b5 (.box [AV.int .u8 0,AV.str [],AV.int .i64 0,AV.int .i64 0,AV.int .i64 0,AV.int .i64 0])) v3 es/\(∀ b,v3=.ms b 0 es.length 1 3->b5 ≠ b):=by
    rcases QW with h | ⟨b,jQ,rfl,h2,h3⟩
    . exact ⟨.inl h,fun b e=>by rw [h.2] at e; cases e⟩
    . have:=iH.bK h2
      exact ⟨.inr ⟨b,jQ,rfl,by rw [pj this]; exact h2,h3⟩,fun b' e=>by cases e; exact this.symm⟩
   obtain ⟨QX,Yg⟩:=QX
   generalize aZ.new b5 (.box [AV.int .u8 0,AV.str [],AV.int .i64 0,AV.int .i64 0,AV.int .i64 0,AV.int .i64 0])=bZ at *
   rw [cX m4']
   refine ⟨⟨rfl,rfl,by simp⟩,?_⟩
   rw [cX (show (bZ.set b4 _).box b5=some _ by rw [aN ra.symm]; exact m5)]
   refine ⟨⟨rfl,rfl,by simp [cG]⟩,?_⟩
   have E4:=(E3.set f4 (x:=.box (aB [.int .i64 0] 0 (au (.int .i64 (i:Nat)))))).set f5 (x:=.box (aB [AV.int .u8 0,AV.str [],AV.int .i64 0,AV.int .i64 0,AV.int .i64 0,AV.int .i64 0] 0 (au (.agg (cG x)))))
   have g4:((bZ.set b4 (.box (aB [.int .i64 0] 0 (au (.int .i64 (i:Nat)))))).set b5 (.box (aB [AV.int .u8 0,AV.str [],AV.int .i64 0,AV.int .i64 0,AV.int .i64 0,AV.int .i64 0] 0 (au (.agg (cG x)))))).box b4=some [.int .i64 (i:Nat)]:=by
    rw [aN ra,aW]; rfl
   have g5:((bZ.set b4 (.box (aB [.int .i64 0] 0 (au (.int .i64 (i:Nat)))))).set b5 (.box (aB [AV.int .u8 0,AV.str [],AV.int .i64 0,AV.int .i64 0,AV.int .i64 0,AV.int .i64 0] 0 (au (.agg (cG x)))))).box b5=some (cG x):=by
    rw [aW]; rfl
   have XT:n7 ao ((bZ.set b4 (.box (aB [.int .i64 0] 0 (au (.int .i64 (i:Nat)))))).set b5 (.box (aB [AV.int .u8 0,AV.str [],AV.int .i64 0,AV.int .i64 0,AV.int .i64 0,AV.int .i64 0] 0 (au (.agg (cG x)))))) v3 es:=by
    rcases QX with h | ⟨b,jQ,rfl,h2,h3⟩
    . exact .inl h
    . exact .inr ⟨b,jQ,rfl,by rw [aN (Yg b rfl).symm,aN (Q2 b rfl).symm]; exact h2,h3⟩
   generalize (bZ.set b4 (.box (aB [.int .i64 0] 0 (au (.int .i64 (i:Nat)))))).set b5 (.box (aB [AV.int .u8 0,AV.str [],AV.int .i64 0,AV.int .i64 0,AV.int .i64 0,AV.int .i64 0] 0 (au (.agg (cG x)))))=cC at *
   refine LJ XT g4 (by omega) E4 (fun b _ e=>Q2 b e) fun dm v' XU E5 hk5 _=>?_
   have kQ:∀ b y,b4=b\/b5=b->cC.box b=some y->dm.box b=some y:=fun b y hb hy=>by
    refine hk5 b y (fun k e=>?_) hy
    rcases XT with h | ⟨b',jQ,rfl,h2,h3⟩
    . rw [h.2] at e; cases e
    . simp only [AV.ms.injEq] at e
      rcases hb with rfl | rfl
      . exact Q2 b' rfl e.1.symm
      . exact Yg b' rfl e.1.symm
   have g4':=kQ b4 _ (.inl rfl) g4
   have g5':=kQ b5 _ (.inr rfl) g5
   simp only [bu,Qu XU,al,dO,bR]
   have Dg:(es.filter ((i:Int) < ·)).length <= es.length:=List.length_filter_le _ _
   refine ⟨fun xG=>?_,fun hle=>?_⟩
   . rw [if_pos (by omega)] at hg
     refine ak.mk ?_
     have:rZ l=true:=by simp [rZ,<- hg]
     rw [this] at hR
     exact hR _
   . rw [if_neg (by omega)] at hg
     have Td:=hs x (fj hx)
     rw [fW g4',dJ,bE]
     simp only [bg,al,cV]
     rw [fW g5']
     simp only [cG,List.drop,bE,dr]
     refine ⟨bw (by omega) (by omega),?_⟩
     rw [P6]
     refine ⟨by omega,?_⟩
     rw [ek (o:=0) (s:=1) rfl]
     refine ⟨⟨rfl,rfl,by simp [bF]⟩,?_⟩
     rw [VE]
     refine ⟨rfl,fun bx wJ=>?_⟩
     have ac0:n7 ao (dm.new bx (.box (aB (bF 1 [AV.int .i64 0]) 0 (au (.int .i64 ((i:Int)+x.size)))))) v' (es.filter ((i:Int) < ·)):=by
      rcases XU with h | ⟨b',jQ,rfl,h2,h3⟩
      . exact .inl h
      . exact .inr ⟨b',jQ,rfl,by rw [pj (wJ.bK h2)]; exact h2,h3⟩
     refine Qt ac0 (by rw [aK]; rfl) (E5.new wJ) (by omega) fun iw v7 ac1 E7=>?_
     refine ⟨bw (by omega) (by omega),l.length - (i+1),by omega,i+1,_,rfl,rfl,rfl,rfl,rfl,by simp,by omega,ac1,by simp; omega,hg,E7⟩
 . have hi:i=l.length:=by omega
   subst hi
   rw [List.drop_length] at hg
   have X0:jm l 0 []=false:=hg.symm
   have xG:rZ l=decide (24 < (ee l (mL l) l.length 1).length):=by simp [rZ,X0]
   rw [xG] at hR
   rw [cS]
   intro b6 sW
   have m6:(aP.new b6 (.box [.int .i64 0])).box b6=some [.int .i64 0]:=aK
   have m1':=(E1.new sW (x:=.box [.int .i64 0])).aS m1
   have n16:=sW.bK (E1.aS m1)
   generalize aP.new b6 (.box [.int .i64 0])=aZ at *
   rw [cX m6]
   refine ⟨⟨rfl,rfl,by simp⟩,?_⟩
   have Tn:(aZ.set b6 (.box (aB [.int .i64 0] 0 (au (.int .i64 0))))).box b6=some [.int .i64 (([]:List Nat).length:Nat)]:=by rw [aW]; rfl
   have adI:(aZ.set b6 (.box (aB [.int .i64 0] 0 (au (.int .i64 0))))).box b1=some [v8]:=by rw [aN n16]; exact m1'
   generalize aZ.set b6 (.box (aB [.int .i64 0] 0 (au (.int .i64 0))))=bZ at *
   rw [pQ adI]
   refine ⟨by simp,?_⟩
   refine qA [v8] (by simp [tN,hv.cQ,aB]) ?_
   cases l with
   | nil=>exact absurd rfl h0
   | cons x0 l =>
   have hx0:=hs x0 (by simp)
   refine p8 (n:=0) (x:=x0) hv rfl (bw (by simp; omega) (by simp; omega)) fun bn be bt cC d1 d2 d3 f1 f2 f3 k1 k2 k3 e4=>?_
   have m6n:=e4.aS Tn
   have en:(((0:Nat):Int)+x0.size)=mL (x0::l):=by simp [mL]
   rw [en] at k2
   have nn:bn ≠ b6:=fun e=>by rw [e] at f1; exact bG Tn f1
   have ne:be ≠ b6:=fun e=>by rw [e] at f2; exact bG Tn f2
   have nt:bt ≠ b6:=fun e=>by rw [e] at f3; exact bG Tn f3
   refine rF (fun ks U=>U.box b6=some [.int .i64 (ks.length:Nat)]/\U.box bn=some [.int .i64 ((0:Nat):Int)]/\U.box be=some [.int .i64 (mL (x0::l))]/\U.box bt=some [v8]/\True) (fun _=>False) hv (by simp) (by omega) xK
    (fun ks U h=>h.2.imp id fun h=>h.imp id fun h=>h.1) (fun ks U o L L' h hL=>?_) (fun ks U o L h ho=>?_) (fun _ _ _ _ h=>h.elim) (fun ks fh x dm o L1 q hI hx aO pw Mw qD _ hL hn hr=>?_) (fun ks dm o L gh hI hL=>?_) (fun _ _ _ h=>h.elim) ⟨m6n,k1,k2,k3,trivial⟩
   . exact ⟨by rw [aN (aX h.1 hL)]; exact h.1,by rw [aN (aX h.2.1 hL)]; exact h.2.1,by rw [aN (aX h.2.2.1 hL)]; exact h.2.2.1,by rw [aN (aX h.2.2.2.1 hL)]; exact h.2.2.2.1,h.2.2.2.2⟩
   . have e:=a7 ho (x:=.loop L)
     exact ⟨e.aS h.1,e.aS h.2.1,e.aS h.2.2.1,e.aS h.2.2.2.1,h.2.2.2.2⟩
   . obtain ⟨i1,i2,i3,i4,i5⟩:=hI
     rw [fW i1,dJ,bE,dr]
     refine ⟨bw (by omega) (by omega),?_⟩
     rw [cX i1]
     refine ⟨⟨rfl,rfl,by simp⟩,?_⟩
     refine hn _ ⟨by rw [aW]; simp [aB],by rw [aN nn]; exact i2,by rw [aN ne]; exact i3,by rw [aN nt]; exact i4,trivial⟩ (hs x (fj hx)).2 (by rw [dG]; exact hL; rw [cR,if_neg (aX i1 hL).symm])
   . obtain ⟨i1,i2,i3,i4,i5⟩:=hI
     have i1':(dm.del o).box b6=some [.int .i64 (ks.length:Nat)]:=by rw [eM (aX i1 hL)]; exact i1
     show (ah (some (false,1)) (.box b6 0) (dm.del o)).wp K (dm.del o) _ _
     rw [fW i1',dJ,bE]
     simp only [dO,al]
     subst gh
     refine ak.mk ?_
     have:=hR (dm.del o)
     have e:decide ((24:Int) < ((ee (x0::l) (mL (x0::l)) (x0::l).length (0+1)).length:Nat))=decide (24 < (ee (x0::l) (mL (x0::l)) (x0::l).length 1).length):=by
      rw [nY]; simp only [dI,cV]; omega
     rw [e]; exact this
end Go.Rip
namespace Go.Rip
open Go.Proofs Go.RowKit
theorem yi {U:St} {a b:Nat} {l:List AV} (h:b ≠ a):(U.bW a l).live b=U.live b:=by
 simp [St.bW,St.set,h]
theorem jk.bW {r:Nat} {U ad:St} {b:Nat} {l:List AV} (h:jk r U ad) (n:U.live b=none):jk r U (ad.bW b l):=fun c y m e=>by
 by_cases hc:c=b
 . subst hc; rw [n] at e; cases e
 . rw [yi hc]; exact h c y m e
theorem eK.scalar {a:AV} {ns:List Nd} (hk:eK false [a] ns):a.scalar=true:=by
 generalize hb:false=b at hk
 generalize hl:[a]=la at hk
 cases hk with
 | mk _ _=>cases hl; rfl
 | nil=>cases hl
 | cons _ _=>cases hb
section
variable {X:Rx} {r i:Nat} {U:St} {R:cA->St->Prop}
end
def z8 (l:List Nd):AV:=if l=[] then .aw else .vec l.length .jD (cH l)
end Go.Rip
