/- Lemmas for the proof: no conditions. -/
import Derived.Test.YtnfpmiiopiinbaaGreatDoorRipZz
import Derived.Test.YtnfpmiiopiinbaaGreatDoorRipO
import Derived.Test.YtnfpmiiopiinbaaGreatDoorRipP
import Derived.Test.YtnfpmiiopiinbaaGreatDoorRipI
import Derived.Test.YtnfpmiiopiinbaaGreatDoorRipK
set_option linter.unusedVariables false
set_option linter.unusedSimpArgs false
set_option linter.loopingSimpArgs false
namespace Go.Rip
open Go.Proofs Go.RowKit
def cM (x:Nd):List AV:=[.int .u8 x.kind,.str x.text,.int .i64 x.n,.int .i64 x.m,.int .i64 x.at_,.int .i64 x.size]
def c8 (l:List Nd):List AV:=l.flatMap cM
theorem u6 (L:List Nd):(c8 L).length=6 * L.length:=by
 induction L with
 | nil=>rfl
 | cons t L ih =>
   have:(c8 (t::L)).length=6+(c8 L).length:=by simp [c8,cM]; omega
   rw [this,ih,gu]; omega
theorem Oy (L:List Nd) (i:Nat):(c8 L).drop (i * 6)=c8 (L.drop i):=by
 induction L generalizing i with
 | nil=>simp [c8]
 | cons t L ih =>
   cases i with
   | zero=>simp
   | succ i =>
     rw [Nat.add_mul,show i * 6+1 * 6=6+i * 6 by omega,<- List.drop_drop,List.drop_succ_cons,<- ih]
     rfl
theorem wc {L:List Nd} {i:Nat} {t:Nd} (h:L[i]?=some t):∃ r,(c8 L).drop (i * 6)=cM t++r:=by
 rw [Oy,fU (de.1 h).1]
 refine ⟨c8 (L.drop (i+1)),?_⟩
 have:=(de.1 h).2
 simp [c8,this]
section
variable {C:cT} {U:St} {K':AV->St->Prop} {Kp:AV->St->Prop} {e sz n b m:Nat} {L l2 z:List AV} {y:AV}
theorem RY {ps:List (Nat × AV)}:(aJ (some (e,sz)) (some z) n true ps).wp C U K' Kp=(n * sz <= 16777216/\(gG (fun i=>some (i * sz,sz)) ps (cN n z) fun cs=>.cond (cs.length=n * sz) (.oE n sz e none cs)).wp C U K' Kp):=by
 simp only [aJ,if_true]; rfl
theorem Xm {pl:Nat->Option (Nat × Nat)} {k:Nat}:(gG pl [] L fun cs=>.cond (cs.length=k) (.oE n sz e none cs)).wp C U K' Kp=(L.length=k/\∀ b,U.dw b->K' (.ms b 0 n sz e) (U.new b (.box L))):=rfl
theorem abk {mu:Bool} (hb:U.box b=some L) (hy:pL U y=some (m,l2)) (h:l2.length=m * sz/\n * sz <= L.length/\n+m <= 4294967296) (hk:∀ b',(U.del b).dw b'->K' (.ms b' 0 (n+m) sz e) ((U.del b).new b' (.box (L.take (n * sz)++l2)))):(eu (some (e,sz)) mu (.ms b 0 n sz e) y U).wp C U K' Kp:=by
 simp only [eu,hy,hb,wp_cond]
 exact ⟨h.1,⟨trivial,trivial,trivial,h.2.1,h.2.2⟩,hk⟩
end
theorem p7.split {ks:List AV} {l:List Nd} {a:AV} {i:Nat} (h:p7 true (ks.drop i) l) (ha:ks[i]?=some a):∃ l1 l2,l=l1++l2/\p7 false [a] l1/\p7 true (ks.drop (i+1)) l2:=by
 obtain ⟨aM,rfl⟩:=de.1 ha
 rw [fU aM] at h
 generalize hb:true=b at h
 generalize hl:ks[i]::ks.drop (i+1)=la at h
 cases h with
 | mk _ _=>cases hb
 | nil=>cases hl
 | cons h1 h2=>cases hl; exact ⟨_,_,rfl,h1,h2⟩
end Go.Rip
namespace Go.Rip
open Go.Proofs Go.RowKit
theorem cB.atN {v:AV} {l:List Nd} (h:cB v l.length (c8 l)) {i:Nat} {x:Nd} (hx:l[i]?=some x) {e:Nat}:∃ r,au (some (e,6)) none v (.int .i64 (i:Int))=.cond (0 <= (i:Int)/\(i:Int) < l.length) (.val (.cU (cM x++r))):=by
 obtain ⟨c,rfl,pS⟩:=h.at (sz:=6) (e:=e) (de.1 hx).1
 obtain ⟨r,hr⟩:=wc hx
 exact ⟨r,by rw [pS,hr]⟩
section
variable {C:cT} {U:St} {K':AV->St->Prop} {Kp:AV->St->Prop} {k:AV->Prop} {v:AV} {l:List Nd} {i e:Nat} {x:Nd}
theorem Ee (h:cB v l.length (c8 l)) (hx:l[i]?=some x) (hk:∀ r,K' (.cU (cM x++r)) U):(au (some (e,6)) none v (.int .i64 (i:Int))).wp C U K' Kp:=by
 obtain ⟨r,hr⟩:=h.atN hx (e:=e)
 rw [hr]
 have:=(de.1 hx).1
 exact ⟨by omega,hk r⟩
theorem BI (h:cB v l.length (c8 l)) (hx:l[i]?=some x) (hk:∀ r,k (.cU (cM x++r))):aF C (au (some (e,6)) none v (.int .i64 (i:Int))) k:=by
 obtain ⟨r,hr⟩:=h.atN hx (e:=e)
 rw [hr]
 have:=(de.1 hx).1
 exact ⟨by omega,hk r⟩
end
theorem cB.eF {v:AV} {n:Nat} {cs:List AV} (h:cB v n cs):v.eF=true/\aC v=[v]:=by
 rcases h with ⟨rfl,rfl,rfl⟩ | ⟨c,rfl⟩ <;> exact ⟨rfl,rfl⟩
theorem xh {U:St} {R:cO->St->Prop} {v:AV} {l:List Nd} {n:Nat} {x:Nd} (hv:cB v l.length (c8 l)) (hx:l[n]?=some x) (h64:uf ((n:Int)+x.size))
 (h:∀ bn be bt af,bn ≠ be->bn ≠ bt->be ≠ bt->U.live bn=none->U.live be=none->U.live bt=none->af.box bn=some [.int .i64 (n:Nat)]->af.box be=some [.int .i64 ((n:Int)+x.size)]->af.box bt=some [v]->dD U af->R (.ret (.func (.func 155) [] [.box bn 0,.box be 0,.box bt 0])) af):ag K 81 [.agg [v],.int .i64 (n:Nat)] U R:=by
 refine TR ?_
 unfold VK
 rw [fg rfl]
 intro bt hbt
 rw [fg rfl]
 intro bn Nx
 have mt:(U.new bt (.box (aC (.agg [v])))).box bt=some [v]:=aS
 have e1:=bE hbt (x:=.box (aC (.agg [v])))
 have fr1:U.live bt=none:=hbt.1
 generalize U.new bt (.box (aC (.agg [v])))=aQ at *
 have e2:=bE Nx (x:=.box (aC (.int .i64 (n:Nat))))
 have mn:(aQ.new bn (.box (aC (.int .i64 (n:Nat))))).box bn=some [.int .i64 (n:Nat)]:=aS
 have ntn:=Nx.cH mt
 have fr2:U.live bn=none:=e1.fresh Nx.1
 generalize aQ.new bn (.box (aC (.int .i64 (n:Nat))))=bg at *
 have mt2:=e2.bo mt
 simp only [tQ mn,dQ,iE,ct,ax,dI,tQ mt2]
 refine BI hv hx fun r=>?_
 simp only [dB,ax,cM,iX,List.drop,oo,iE,CY]
 refine ⟨h64,?_⟩
 rw [df]
 intro be vL
 have e3:=bE vL (x:=.box [.int .i64 0])
 have me:(bg.new be (.box [.int .i64 0])).box be=some [.int .i64 0]:=aS
 have nne:=vL.cH mn
 have nte:=vL.cH mt2
 have fr3:U.live be=none:=(e1.trans e2).fresh vL.1
 refine ⟨?_,?_⟩
 . intro b hb
   simp only [dK,mw,gw,cF,fN,List.not_mem_nil,or_false] at hb
   have:b=bn\/b=bt:=by
    rcases hb with h | h | h <;> simp_all
   rw [lG]
   rcases this with rfl | rfl
   . rw [if_neg nne]
   . rw [if_neg nte]
 . rw [dP me]
   refine ⟨⟨rfl,rfl,by simp⟩,aj.mk (h bn be bt _ nne ntn.symm nte.symm fr2 fr3 fr1 ?_ ?_ ?_ ((e1.trans (e2.trans e3)).set fr3))⟩
   . rw [bf nne]; exact e3.bo mn
   . rw [bD]; rfl
   . rw [bf nte]; exact e3.bo mt2
theorem xd (l:List Nd) (en:Int):∀ (f p:Nat),(fy l en f p).length <= f
 | 0,_=>by simp [fy]
 | f+1,p=>by
   simp only [fy]
   split
   . split
     . have:=xd l en f (p+(Nd.size ‹_›).toNat)
       simp; omega
     . simp
   . simp
theorem C1 {v:AV} {l:List Nd} {n:Nat} {en:Int} {bn be bt:Nat} {U:St} {B:AV->Qr->St->Prop} {Kn:St->Prop} {Ke:Nat->St->Prop} {Kr:St->Prop} {Kp:AV->St->Prop} (I:List Nat->St->Prop) (J:St->Prop)
 (hv:cB v l.length (c8 l)) (hn:n < l.length) (hlen:l.length <= 100000) (ZQ:en <= l.length)
 (Bv:∀ ks U,I ks U->U.box bn=some [.int .i64 (n:Nat)]/\U.box be=some [.int .i64 en]/\U.box bt=some [v])
 (CA:∀ ks U o L L',I ks U->U.loop o=some L->I ks (U.set o (.loop L')))
 (sj:∀ ks U o L,I ks U->U.dw o->I ks (U.new o (.loop L)))
 (hJ:∀ U o L L',J U->U.loop o=some L->J (U.set o (.loop L')))
 (body:∀ (ks:List Nat) (fI:Nat) (x:Nd) (aQ:St) (o:Nat) (L1:fp) (q:Qr),I ks aQ->l[fI]?=some x->(fI:Int) < en->0 < x.size->n < fI->ks.length < l.length->(∃ r,fy l en l.length (n+1)=ks++fI::r)->aQ.loop o=some L1 ->
   (∀ bg,I (ks++[fI]) bg->x.size <= 100000->bg.loop o=some L1->q.n bg)->(∀ bg,J bg->bg.loop o=some L1->q.r bg)->B (.int .i64 (fI:Nat)) q aQ)
 (fin:∀ ks aQ o L,ks=fy l en l.length (n+1)->I ks aQ->aQ.loop o=some L->Kn (aQ.del o))
 (Sz:∀ aQ o L,J aQ->aQ.loop o=some L->Kr (aQ.del o))
 (h0:I [] U):qt K 1 (.func (.func 155) [] [.box bn 0,.box be 0,.box bt 0]) U (fun v q U=>q.CQ (fun U=>B v q U) U) Kn Ke Kr Kp:=by
 refine ⟨by kernel_rfl,fun o L ho G3 Nv Y=>?_⟩
 have I1:=sj _ _ o L h0 ho
 have L8:=u4 (U:=U) (b:=o) (L:=L)
 generalize U.new o (.loop L)=aQ at *
 refine Fp ?_
 unfold Ia
 rw [iZ (Bv _ _ I1).1,dQ,bN,cr]
 refine ⟨aW (by omega) (by omega),?_⟩
 refine ⟨fun m v0 v2 v3 v5 af=>∃ ks f p,m=l.length - p/\v0=.qI o/\v2=.box be 0/\v3=.box bt 0/\v5=.int .i64 (p:Nat)/\n < p/\p <= 300000/\l.length - p <= f/\ks++fy l en f p=fy l en l.length (n+1)/\I ks af/\∃ L1,af.loop o=some L1/\L1.st .ready none=L/\L1.state=.ready/\L1.fM=none,
  ⟨_,[],l.length,n+1,rfl,rfl,rfl,rfl,by simp,by omega,by omega,by omega,rfl,I1,L,L8,by cases L; simp_all [fp.st],G3,Nv⟩,?_⟩
 clear I1 L8
 rintro m v0 v2 v3 v5 bg ⟨ks,f,p,rfl,rfl,rfl,rfl,rfl,UR,hp3,hf,iq,I2,L1,jc,gD,AX,AW⟩
 obtain ⟨k1,k2,k3⟩:=Bv _ _ I2
 rw [iZ k2,dQ,bN]
 simp only [a7,al,aI,aB]
 have stop:fy l en f p=[]->aj (H3 o Kn Ke Kr Kp) (.aG []) bg:=fun h=>by
  rw [h,gw] at iq
  refine aj.mk ⟨L1,jc,by rw [AX]; simp,?_⟩
  rw [AW]
  exact fin ks bg o L1 iq I2 jc
 by_cases aM:(p:Int) < en
 . have ll:p < l.length:=by omega
   obtain ⟨x,hx⟩:∃ x,l[p]?=some x:=⟨l[p],by simp [ll]⟩
   cases f with
   | zero=>omega
   | succ f =>
   have vP:fy l en (f+1) p=if 0 < x.size then p::fy l en f (p+x.size.toNat) else []:=by
    simp only [fy,hx,aM,true_and]
   simp only [aM,bZ,dN,bq,ax,ct,dI,tQ k3,dQ,iE,iF]
   refine BI hv hx fun r=>?_
   simp only [dB,ax,iF,cM,iX,List.drop,oo,iE,cx,az,if_true,al,bh]
   refine ⟨fun hs=>?_,fun hs=>?_⟩
   . rw [if_pos hs] at vP
     simp only [jW,x7]
     refine Y _ _ _ L1 rfl jc gD ?_
     refine ⟨L1,jc,AX,?_⟩
     have I3:=CA _ _ o L1 { L1 with state:=.busy } I2 jc
     have jQ:ks.length < l.length:=by
      have:=xd l en l.length (n+1)
      rw [<- iq,vP] at this
      simp at this; omega
     refine body ks p x _ o { L1 with state:=.busy } _ I3 hx aM hs UR jQ ⟨_,by rw [<- iq,vP]⟩ fF (fun cz I4 rT sB=>?_) fun cz ZA sB=>?_
     . refine ⟨_,sB,?_⟩
       have I5:=CA _ _ o _ { L1 with state:=.ready,fM:=none } I4 sB
       obtain ⟨j1,j2,j3⟩:=Bv _ _ I5
       simp only [bL,dA,al,cn,bG,ct,dI]
       rw [iZ j3,dQ,bN]
       refine Ee hv hx fun r=>?_
       simp only [dB,al,cM,iX,List.drop,mB,bN,cr]
       refine ⟨aW (by omega) (by omega),_,?_,ks++[p],f,p+x.size.toNat,rfl,rfl,rfl,rfl,?_,by omega,by omega,by omega,?_,I5,_,fF,by rw [<- gD]; rfl,rfl,rfl⟩
       . omega
       . congr 1; omega
       . rw [<- iq,vP]; simp
     . refine ⟨_,sB,?_⟩
       simp only [bL,dA,al,dx,bT]
       refine aj.mk ⟨_,fF,by simp,?_⟩
       exact Sz _ o _ (hJ _ o _ _ ZA sB) fF
   . rw [if_neg hs] at vP
     exact stop vP
 . simp only [aM,cE,show (false == true)=false from rfl,aZ,az,bC,if_false,al,bG]
   refine stop ?_
   cases f with
   | zero=>rfl
   | succ f =>
     simp only [fy]
     split
     . rw [if_neg (fun h=>aM h.1)]
     . rfl
end Go.Rip
namespace Go.Rip
open Go.Proofs Go.RowKit
def o5 (aw U:St) (v:AV) (es:List Int):Prop:=(es=[]/\v=.aA)\/∃ b kB,v=.ms b 0 es.length 1 3/\U.box b=some (es.map (.int .i64)++kB)/\aw.live b=none
section
variable {aw U:St} {R:cO->St->Prop} {K':AV->St->Prop} {Kp:AV->St->Prop}
theorem U8 {b:Nat} {n a:Int} (hb:U.box b=some [.int .i64 n]) (h:R (.ret (.bool (decide (a <= n)))) U):ag K 133 [.int .i64 a,.box b 0] U R:=by
 refine Pw ?_
 unfold Pv
 rw [iZ hb,dQ,bN]
 simp only [fD,al]
 exact aj.mk h
theorem adJ {b:Nat} {L:List AV} {es:List Int} {kB:List AV} (h:U.box b=some L) (hL:L=es.map (.int .i64)++kB) {i n:Nat} (hi:i < es.length) (hn:i < n) (hk:K' (.int .i64 es[i]) U) :
 (au (some (3,1)) none (.ms b 0 n 1 3) (.int .i64 (i:Nat))).wp K U (fun v U=>(ah (some (false,1)) v U).wp K U K' Kp) Kp:=by
 rw [AE]
 refine ⟨⟨by omega,by omega,rfl⟩,?_⟩
 rw [iZ h]
 have:L.drop (0+(i:Int).toNat * 1)=.int .i64 es[i]::((es.map (AV.int .i64)).drop (i+1)++kB):=by
  rw [hL,dL,Nat.mul_one,dI,List.drop_append_of_le_length (by simp; omega),fU (by simpa using hi)]
  simp
 rw [this,bN]
 exact hk
theorem EN {b bn:Nat} {es:List Int} {kB:List AV} {n:Int} (hb:U.box b=some (es.map (.int .i64)++kB)) (hn:U.box bn=some [.int .i64 n]) (hl:es.length <= 100000)
 (h:(∃ k,k < es.length/\(es.take k).all (fun a=>decide (n < a))=true/\(∃ hk:k < es.length,es[k] <= n)/\R (.ret (.int .i64 (k:Nat))) U)\/(es.all (fun a=>decide (n < a))=true/\R (.ret (.int .i64 (-1))) U)) :
 ag K 210 [.ms b 0 es.length 1 3,.func (.func 133) [] [.box bn 0]] U R:=by
 refine Fv ?_
 unfold Ih
 simp only [Om,al]
 refine ⟨fun m v0 v1 v7 v8 af=>∃ i:Nat,m=es.length - i/\i <= es.length/\v0=.ms b 0 es.length 1 3/\v1=.func (.func 133) [] [.box bn 0]/\v7=.int .i64 es.length/\v8=.int .i64 i/\af=U/\(es.take i).all (fun a=>decide (n < a))=true,⟨_,0,rfl,by omega,rfl,rfl,rfl,rfl,rfl,by simp⟩,?_⟩
 rintro m v0 v1 v7 v8 af ⟨i,rfl,hi,rfl,rfl,rfl,rfl,rfl,bA⟩
 simp only [a7,al,bh]
 have ZE:∀ (k:Nat) (hk:k < es.length),(es.take i).all (fun a=>decide (n < a))=true->k < i->n < es[k]:=fun k hk ha Kb=>by
  rw [ep] at ha
  have:es[k] ∈ es.take i:=by
   rw [List.mem_iff_getElem]
   exact ⟨k,by simp; omega,by simp⟩
  simpa using ha _ this
 refine ⟨fun aM=>?_,fun gq=>?_⟩
 . have aM:i < es.length:=by omega
   refine adJ hb rfl aM aM ?_
   simp only [jW,show gj K.P 133=true by kernel_rfl,if_true,kO,mw,iX]
   refine U8 hn ?_
   simp only [bL,bh]
   refine ⟨fun hle=>?_,fun vO=>?_⟩
   . rcases h with ⟨k,hk,oP,⟨_,iT⟩,hR⟩ | ⟨hA,_⟩
     . have:k=i:=by
        rcases Nat.lt_trichotomy k i with h | h | h
        . have:=ZE k hk bA h; omega
        . exact h
        . rw [ep] at oP
          have hm:es[i] ∈ es.take k:=by
           rw [List.mem_iff_getElem]
           exact ⟨i,by simp; omega,by simp⟩
          have:=oP _ hm
          simp at this; omega
       subst this
       exact aj.mk hR
     . rw [ep] at hA
       have:=hA es[i] (vb aM)
       simp at this; omega
   . rw [cr]
     refine ⟨aW (by omega) (by omega),es.length - (i+1),by omega,i+1,rfl,by omega,rfl,rfl,rfl,by simp,rfl,?_⟩
     rw [lM,mQ aM,List.all_append,bA]
     simp; omega
 . have hi:i=es.length:=by omega
   subst hi
   rw [oq] at bA
   rcases h with ⟨k,hk,oP,⟨_,iT⟩,hR⟩ | ⟨_,hR⟩
   . rw [ep] at bA
     have:=bA es[k] (vb hk)
     simp at this; omega
   . exact aj.mk hR
theorem Es:∀ (es:List Int) (n:Int),(∃ k,∃ hk:k < es.length,(es.take k).all (fun a=>decide (n < a))=true/\es[k] <= n)\/es.all (fun a=>decide (n < a))=true
 | [],n=>.inr rfl
 | a::es,n=>by
   by_cases ha:n < a
   . rcases Es es n with ⟨k,hk,h1,h2⟩ | h
     . exact .inl ⟨k+1,by simp; omega,by simp [ha,h1],by simpa using h2⟩
     . exact .inr (by simp [ha,h])
   . exact .inl ⟨0,by simp,by simp,by simp; omega⟩
theorem M9 {v:AV} {bn:Nat} {es:List Int} {n:Int} (hv:o5 aw U v es) (hn:U.box bn=some [.int .i64 n]) (hl:es.length <= 100000) (hE:dD aw U) (Nx:∀ b,aw.live b=none->v=.ms b 0 es.length 1 3->bn ≠ b)
 (h:∀ af v',o5 aw af v' (es.filter (n < ·))->dD aw af->(∀ b x,(∀ k,v ≠ .ms b 0 k 1 3)->U.box b=some x->af.box b=some x)->(∀ b k,v'=.ms b 0 k 1 3->v=.ms b 0 es.length 1 3)->R (.ret v') af):ag K 132 [v,.func (.func 133) [] [.box bn 0]] U R:=by
 refine Pu ?_
 unfold Pt
 rcases hv with ⟨rfl,rfl⟩ | ⟨b,kB,rfl,hb,yf⟩
 ·
  have ad8:ag K 210 [.aA,.func (.func 133) [] [.box bn 0]] U (aq (fun v10 U =>
   (ai .eql (BT.mk false false false none false) true v10 (AV.int .i64 (-1))).wp K U (fun v12 U=>ao v12 (aj R .aA U) False) (aa R)) (aa R)):=by
   refine Fv ?_
   unfold Ih
   simp only [len_nil,al]
   refine ⟨fun m v0 v1 v7 v8 af=>v7=.int .i64 0/\v8=.int .i64 0/\af=U,⟨0,rfl,rfl,rfl⟩,?_⟩
   rintro m v0 v1 v7 v8 af ⟨rfl,rfl,rfl⟩
   simp only [a7,al,show decide ((0:Int) < 0)=false from rfl,bG]
   refine aj.mk ?_
   simp only [bL,aT,al,bZ,bT]
   exact aj.mk (h af .aA (.inl ⟨rfl,rfl⟩) hE (fun _ _ _ h=>h) (fun _ _ e=>by cases e))
  refine ad8.mono fun r af hr=>?_
  cases r with
  | panic x=>exact hr
  | ret x =>
    simp only [bL] at hr ⊢
    refine ay.wp_mono (fun v U hv=>?_) _ hr
    cases v <;> simp only [ao] at hv ⊢
    exact ⟨hv.1,fun e=>(hv.2 e).elim⟩
 . have hbb:bn ≠ b:=Nx b yf rfl
   rcases Es es n with ⟨k,hk,oP,iT⟩ | bA
   . refine EN hb hn hl (.inl ⟨k,hk,oP,⟨hk,iT⟩,?_⟩)
     have hkn:¬ ((k:Nat):Int)=-1:=by omega
     simp only [bL,aT,al,hkn,cE,bG,cr]
     refine ⟨aW (by omega) (by omega),?_⟩
     have hf1:(es.take (k+1)).filter (n < ·)=es.take k:=by
      rw [lM,mQ hk,List.filter_append]
      have h1:(es.take k).filter (n < ·)=es.take k:=by
       rw [List.filter_eq_self]
       intro a ha
       rw [ep] at oP
       exact oP a ha
      rw [h1]
      have:¬ n < es[k]:=by omega
      simp [this]
     refine ⟨fun m v0 v1 v5 v6 af=>∃ (i j:Nat) (arr:List AV),m=es.length - j/\v0=.ms b 0 es.length 1 3/\v1=.func (.func 133) [] [.box bn 0]/\v5=.int .i64 (i:Nat)/\v6=.int .i64 (j:Nat)/\j <= es.length/\i < j/\af.box b=some arr/\arr.take i=((es.take j).filter (n < ·)).map (.int .i64)/\i=((es.take j).filter (n < ·)).length/\arr.drop j=(es.drop j).map (.int .i64)++kB/\arr.length=es.length+kB.length/\(∀ c,c ≠ b->af.live c=U.live c),
      ⟨_,k,k+1,es.map (.int .i64)++kB,rfl,rfl,rfl,rfl,by simp,by omega,by omega,hb,?_,?_,?_,by simp,fun _ _=>rfl⟩,?_⟩
     . rw [hf1,List.take_append_of_le_length (by simp; omega),<- List.map_take]
     . rw [hf1]; simp; omega
     . rw [List.drop_append_of_le_length (by simp; omega),<- List.map_drop]
     . rintro m v0 v1 v5 v6 af ⟨i,j,arr,rfl,rfl,rfl,rfl,rfl,hj,qg,eT,UF,ZD,ha3,ha4,pT⟩
       simp only [Om,al,a7,bh]
       refine ⟨fun aM=>?_,fun gq=>?_⟩
       . have aM:j < es.length:=by omega
         intro jj EB
         have hn':af.box bn=some [.int .i64 n]:=by rw [fE (pT bn hbb)]; exact hn
         rw [AE]
         refine ⟨⟨by omega,by omega,rfl⟩,?_⟩
         rw [iZ eT]
         obtain ⟨rr,hd⟩:∃ rr,arr.drop (0+(j:Int).toNat * 1)=.int .i64 es[j]::rr:=by
          rw [dL,Nat.mul_one,dI,ha3,fU aM,dV]
          exact ⟨_,rfl⟩
         rw [hd,bN]
         simp only [jW,show gj K.P 133=true by kernel_rfl,if_true,kO,mw,iX]
         refine U8 hn' ?_
         have jF:es.take (j+1)=es.take j++[es[j]]:=by rw [lM,mQ aM]; rfl
         have AQ:arr.drop (j+1)=(es.drop (j+1)).map (.int .i64)++kB:=by
          rw [<- List.drop_drop,ha3,fU aM,dV]; rfl
         simp only [bL,dA,al]
         by_cases hle:es[j] <= n
         . simp only [hle,bZ,cn,bG]
           refine EB _ _ _ _ _ ?_
           simp only [cr]
           refine ⟨aW (by omega) (by omega),es.length - (j+1),by omega,i,j+1,arr,rfl,rfl,rfl,rfl,by simp,by omega,by omega,eT,?_,?_,AQ,ha4,pT⟩
           . rw [jF,List.filter_append,UF]
             have:¬ n < es[j]:=by omega
             simp [this]
           . rw [jF,List.filter_append]
             have:¬ n < es[j]:=by omega
             simp only [List.filter_cons,this,cE,bC,if_false,List.filter_nil,gw]
             exact ZD
         . simp only [hle,cE,dx,bT]
           rw [AE]
           refine ⟨⟨by omega,by omega,rfl⟩,?_⟩
           rw [dP eT]
           refine ⟨⟨rfl,rfl,by simp; omega⟩,?_⟩
           rw [cr]
           refine ⟨aW (by omega) (by omega),?_⟩
           refine EB _ _ _ _ _ ?_
           simp only [cr]
           have y9:aK arr (0+(i:Int).toNat * 1) (aC (.int .i64 es[j]))=arr.take i++[.int .i64 es[j]]++arr.drop (i+1):=by
            simp [aK]
           have Hf:(arr.take i).length=i:=by simp; omega
           refine ⟨aW (by omega) (by omega),es.length - (j+1),by omega,i+1,j+1,_,rfl,rfl,rfl,by simp,by simp,by omega,by omega,bD,?_,?_,?_,?_,fun c hc=>by rw [dy,if_neg hc]; exact pT c hc⟩
           . rw [y9,List.take_append_of_le_length (by simp; omega),o4 (by simp; omega),UF,jF,List.filter_append]
             have:n < es[j]:=by omega
             simp [this]
           . rw [jF,List.filter_append]
             have:n < es[j]:=by omega
             simp only [List.filter_cons,this,bZ,if_true,List.filter_nil,cZ,gu,kJ]
             omega
           . rw [y9,<- AQ]
             rw [List.drop_append,List.drop_eq_nil_of_le (by simp; omega),mw,List.drop_drop]
             congr 1
             simp
             omega
           . rw [y9]; simp; omega
       . have hje:j=es.length:=by omega
         subst hje
         rw [oq] at UF ZD
         simp only [dt,dR,wp_cond,al]
         refine ⟨⟨by omega,by omega,by omega,by omega,trivial⟩,?_⟩
         simp only [Ce,eT,wp_cond,sd]
         refine ⟨⟨trivial,by simp; omega⟩,⟨by omega,by omega,by omega,by simp,trivial⟩,?_⟩
         refine aj.mk (h _ _ (.inr ⟨b,(aK arr (0+(i:Int).toNat * 1) (cN ((es.length:Int).toNat - (i:Int).toNat) [.int .i64 0])).drop i,?_,?_,yf⟩) ?_ ?_ ?_)
         . simp [ZD]
         . rw [bD]
           congr 1
           have hz:(cN (es.length - i) [AV.int .i64 0]).length=es.length - i:=by simp [kZ]
           simp only [dL,Nat.mul_one,dI]
           conv=>lhs; rw [<- List.take_append_drop i (aK arr i _)]
           congr 1
           simp only [aK,kI]
           rw [List.take_append_of_le_length (by simp; omega),o4 (by simp; omega)]
           exact UF
         . refine dD.set (fun c x e=>?_) yf
           by_cases hc:c=b
           . subst hc; rw [yf] at e; cases e
           . rw [pT c hc]; exact hE c x e
         . intro c x hc hx
           have hcb:c ≠ b:=fun e=>hc es.length (by rw [e])
           rw [bf hcb,fE (pT c hcb)]; exact hx
         . intro c k e
           simp only [AV.ms.injEq] at e
           rw [e.1]
   . refine EN hb hn hl (.inr ⟨bA,?_⟩)
     simp only [bL,aT,al,bZ,bT]
     have hf:es.filter (n < ·)=es:=by
      rw [List.filter_eq_self]
      intro a ha
      rw [ep] at bA
      exact bA a ha
     exact aj.mk (h U _ (by rw [hf]; exact .inr ⟨b,kB,rfl,hb,yf⟩) hE (fun _ _ _ h=>h) (fun b' k e=>by cases e; rfl))
end
end Go.Rip
namespace Go.Rip
open Go.Proofs Go.RowKit
section
variable {aw U:St} {R:cO->St->Prop} {K':AV->St->Prop} {Kp:AV->St->Prop} {v:AV} {es:List Int}
theorem Sj (h:o5 aw U v es):br (some false) v=.val (.int .i64 es.length):=by
 rcases h with ⟨rfl,rfl⟩ | ⟨b,kB,rfl,_,_⟩ <;> rfl
theorem Si {bx:Nat} {a:Int} (hv:o5 aw U v es) (hy:U.box bx=some [.int .i64 a]) (E:dD aw U) (hl:es.length <= 100000) (h:∀ af v',o5 aw af v' (es++[a])->dD aw af->K' v' af) :
 (eu (some (3,1)) true v (.ms bx 0 1 1 3) U).wp K U K' Kp:=by
 have Ly:pL U (.ms bx 0 1 1 3)=some (1,[.int .i64 a]):=by simp [pL,hy]
 rcases hv with ⟨rfl,rfl⟩ | ⟨b,kB,rfl,hb,yf⟩
 . simp only [eu,Ly,wp_cond]
   refine ⟨rfl,by omega,fun b hf=>?_⟩
   exact h _ _ (.inr ⟨b,[],rfl,by rw [show U.sh none=U from rfl]; exact aS,E.fresh hf.1⟩) (E.new hf)
 . refine abk hb Ly ⟨rfl,by simp,by omega⟩ fun b' hf=>?_
   refine h _ _ (.inr ⟨b',[],by simp,?_,?_⟩) ((E.del yf).new hf)
   . rw [aS]; simp
   . have hd:=hf.1
     by_cases e:b'=b
     . rw [e]; exact yf
     . rw [kD,if_neg e] at hd; exact E.fresh hd
end
theorem Ll {v:AV} {l:List Nd} (hv:cB v l.length (c8 l)) (hc:closed v=true) (hl:l.length <= 100000) (h0:l ≠ []) (hs:∀ x ∈ l,0 <= x.size/\x.size <= 100000) (uu:mR l <= l.length):Pure K 69 [.agg [v]] (.bool (tp l)):=by
 refine Pure.of (by simp [cK,closed,hc]) rfl (fun U=>rfl) fun R hR=>?_
 refine TH ?_
 unfold VB
 rw [fg rfl]
 intro b1 gl
 have m1:((bJ ⟨.e,0⟩).new b1 (.box (aC (.agg [v])))).box b1=some [v]:=aS
 generalize (bJ _).new b1 _=aw at *
 clear gl
 simp only [ct,al,dI]
 rw [iZ m1,dQ,bN,hv.len,al]
 refine ⟨fun m v1 v2 v3 v8 v9 v10 af=>∃ (i:Nat) (es:List Int),m=l.length - i/\v1=.box b1 0/\v2=.bool false/\v8=v/\v9=.int .i64 l.length/\v10=.int .i64 (i:Nat)/\i <= l.length/\o5 aw af v3 es/\es.length <= i/\jX (l.drop i) i es=jX l 0 []/\dD aw af,
  ⟨_,0,[],rfl,rfl,rfl,rfl,rfl,rfl,by omega,.inl ⟨rfl,rfl⟩,by simp,rfl,dD.refl _⟩,?_⟩
 rintro m v1 v2 v3 v8 v9 v10 aQ ⟨i,es,rfl,rfl,rfl,rfl,rfl,rfl,hi,yY,ZP,hg,E1⟩
 simp only [a7,al,bh]
 refine ⟨fun aM=>?_,fun gq=>?_⟩
 . have aM:i < l.length:=by omega
   obtain ⟨x,hx⟩:∃ x,l[i]?=some x:=⟨l[i],by simp [aM]⟩
   have sD:l.drop i=x::l.drop (i+1):=by
    rw [fU aM]
    have:=(de.1 hx).2
    rw [this]
   rw [sD,jX] at hg
   refine Ee hv hx fun r=>?_
   rw [rh]
   refine ⟨by simp [cM],?_⟩
   have G4:(cM x++r).take 6=cM x:=by simp [cM]
   rw [G4,df]
   intro b4 iS
   rw [df]
   intro b5 lS
   have m4:(aQ.new b4 (.box [.int .i64 0])).box b4=some [.int .i64 0]:=aS
   have A5:=lS.cH m4
   have f4:=E1.fresh iS.1
   have E2:=E1.new iS (x:=.box [.int .i64 0])
   have SM:o5 aw (aQ.new b4 (.box [.int .i64 0])) v3 es/\(∀ b,v3=.ms b 0 es.length 1 3->b4 ≠ b):=by
    rcases yY with h | ⟨b,kB,rfl,h2,h3⟩
    . exact ⟨.inl h,fun b e=>by rw [h.2] at e; cases e⟩
    . have:=iS.cH h2
      exact ⟨.inr ⟨b,kB,rfl,by rw [sO this]; exact h2,h3⟩,fun b' e=>by cases e; exact this.symm⟩
   obtain ⟨SM,SR⟩:=SM
   clear yY
   generalize aQ.new b4 (.box [.int .i64 0])=bg at *
   have m5:(bg.new b5 (.box [AV.int .u8 0,AV.str [],AV.int .i64 0,AV.int .i64 0,AV.int .i64 0,AV.int .i64 0])).box b5=some [AV.int .u8 0,AV.str [],AV.int .i64 0,AV.int .i64 0,AV.int .i64 0,AV.int .i64 0]:=aS
   have f5:=E2.fresh lS.1
   have E3:=E2.new lS (x:=.box [AV.int .u8 0,AV.str [],AV.int .i64 0,AV.int .i64 0,AV.int .i64 0,AV.int .i64 0])
   have m4':=(bE lS (x:=.box [AV.int .u8 0,AV.str [],AV.int .i64 0,AV.int .i64 0,AV.int .i64 0,AV.int .i64 0])).bo m4
   have SN:o5 aw (bg.new b5 (.box [AV.int .u8 0,AV.str [],AV.int .i64 0,AV.int .i64 0,AV.int .i64 0,AV.int .i64 0])) v3 es/\(∀ b,v3=.ms b 0 es.length 1 3->b5 ≠ b):=by
    rcases SM with h | ⟨b,kB,rfl,h2,h3⟩
    . exact ⟨.inl h,fun b e=>by rw [h.2] at e; cases e⟩
    . have:=lS.cH h2
      exact ⟨.inr ⟨b,kB,rfl,by rw [sO this]; exact h2,h3⟩,fun b' e=>by cases e; exact this.symm⟩
   obtain ⟨SN,aac⟩:=SN
   generalize bg.new b5 (.box [AV.int .u8 0,AV.str [],AV.int .i64 0,AV.int .i64 0,AV.int .i64 0,AV.int .i64 0])=cz at *
   rw [dP m4']
   refine ⟨⟨rfl,rfl,by simp⟩,?_⟩
   rw [dP (show (cz.set b4 _).box b5=some _ by rw [bf A5.symm]; exact m5)]
   refine ⟨⟨rfl,rfl,by simp [cM]⟩,?_⟩
   have E4:=(E3.set f4 (x:=.box (aK [.int .i64 0] 0 (aC (.int .i64 (i:Nat)))))).set f5 (x:=.box (aK [AV.int .u8 0,AV.str [],AV.int .i64 0,AV.int .i64 0,AV.int .i64 0,AV.int .i64 0] 0 (aC (.agg (cM x)))))
   have g4:((cz.set b4 (.box (aK [.int .i64 0] 0 (aC (.int .i64 (i:Nat)))))).set b5 (.box (aK [AV.int .u8 0,AV.str [],AV.int .i64 0,AV.int .i64 0,AV.int .i64 0,AV.int .i64 0] 0 (aC (.agg (cM x)))))).box b4=some [.int .i64 (i:Nat)]:=by
    rw [bf A5,bD]; rfl
   have g5:((cz.set b4 (.box (aK [.int .i64 0] 0 (aC (.int .i64 (i:Nat)))))).set b5 (.box (aK [AV.int .u8 0,AV.str [],AV.int .i64 0,AV.int .i64 0,AV.int .i64 0,AV.int .i64 0] 0 (aC (.agg (cM x)))))).box b5=some (cM x):=by
    rw [bD]; rfl
   have ZR:o5 aw ((cz.set b4 (.box (aK [.int .i64 0] 0 (aC (.int .i64 (i:Nat)))))).set b5 (.box (aK [AV.int .u8 0,AV.str [],AV.int .i64 0,AV.int .i64 0,AV.int .i64 0,AV.int .i64 0] 0 (aC (.agg (cM x)))))) v3 es:=by
    rcases SN with h | ⟨b,kB,rfl,h2,h3⟩
    . exact .inl h
    . exact .inr ⟨b,kB,rfl,by rw [bf (aac b rfl).symm,bf (SR b rfl).symm]; exact h2,h3⟩
   generalize (cz.set b4 (.box (aK [.int .i64 0] 0 (aC (.int .i64 (i:Nat)))))).set b5 (.box (aK [AV.int .u8 0,AV.str [],AV.int .i64 0,AV.int .i64 0,AV.int .i64 0,AV.int .i64 0] 0 (aC (.agg (cM x)))))=dZ at *
   refine M9 ZR g4 (by omega) E4 (fun b _ e=>SR b e) fun eW v' ZS E5 hk5 _=>?_
   have qh:∀ b y,b4=b\/b5=b->dZ.box b=some y->eW.box b=some y:=fun b y hb hy=>by
    refine hk5 b y (fun k e=>?_) hy
    rcases ZR with h | ⟨b',kB,rfl,h2,h3⟩
    . rw [h.2] at e; cases e
    . simp only [AV.ms.injEq] at e
      rcases hb with rfl | rfl
      . exact SR b' rfl e.1.symm
      . exact aac b' rfl e.1.symm
   have g4':=qh b4 _ (.inl rfl) g4
   have g5':=qh b5 _ (.inr rfl) g5
   simp only [bL,Sj ZS,al,cx,bh]
   have yZ:(es.filter ((i:Int) < ·)).length <= es.length:=List.length_filter_le _ _
   refine ⟨fun vO=>?_,fun hle=>?_⟩
   . rw [if_pos (by omega)] at hg
     refine aj.mk ?_
     have:tp l=true:=by simp [tp,<- hg]
     rw [this] at hR
     exact hR _
   . rw [if_neg (by omega)] at hg
     have NR:=hs x (fl hx)
     rw [iZ g4',dQ,bN]
     simp only [ct,al,dI]
     rw [iZ g5']
     simp only [cM,List.drop,bN,cr]
     refine ⟨aW (by omega) (by omega),?_⟩
     rw [RY]
     refine ⟨by omega,?_⟩
     rw [iY (o:=0) (s:=1) rfl]
     refine ⟨⟨rfl,rfl,by simp [cN]⟩,?_⟩
     rw [Xm]
     refine ⟨rfl,fun bx oO=>?_⟩
     have aei:o5 aw (eW.new bx (.box (aK (cN 1 [AV.int .i64 0]) 0 (aC (.int .i64 ((i:Int)+x.size)))))) v' (es.filter ((i:Int) < ·)):=by
      rcases ZS with h | ⟨b',kB,rfl,h2,h3⟩
      . exact .inl h
      . exact .inr ⟨b',kB,rfl,by rw [sO (oO.cH h2)]; exact h2,h3⟩
     refine Si aei (by rw [aS]; rfl) (E5.new oO) (by omega) fun jN v7 aej E7=>?_
     refine ⟨aW (by omega) (by omega),l.length - (i+1),by omega,i+1,_,rfl,rfl,rfl,rfl,rfl,by simp,by omega,aej,by simp; omega,hg,E7⟩
 . have hi:i=l.length:=by omega
   subst hi
   rw [List.drop_length] at hg
   have ZY:jX l 0 []=false:=hg.symm
   have vO:tp l=decide (24 < (fy l (mR l) l.length 1).length):=by simp [tp,ZY]
   rw [vO] at hR
   rw [df]
   intro b6 uo
   have m6:(aQ.new b6 (.box [.int .i64 0])).box b6=some [.int .i64 0]:=aS
   have m1':=(E1.new uo (x:=.box [.int .i64 0])).bo m1
   have n16:=uo.cH (E1.bo m1)
   generalize aQ.new b6 (.box [.int .i64 0])=bg at *
   rw [dP m6]
   refine ⟨⟨rfl,rfl,by simp⟩,?_⟩
   have U9:(bg.set b6 (.box (aK [.int .i64 0] 0 (aC (.int .i64 0))))).box b6=some [.int .i64 (([]:List Nat).length:Nat)]:=by rw [bD]; rfl
   have aeZ:(bg.set b6 (.box (aK [.int .i64 0] 0 (aC (.int .i64 0))))).box b1=some [v8]:=by rw [bf n16]; exact m1'
   generalize bg.set b6 (.box (aK [.int .i64 0] 0 (aC (.int .i64 0))))=cz at *
   rw [pA aeZ]
   refine ⟨by simp,?_⟩
   refine rL [v8] (by simp [sf,hv.eF,aK]) ?_
   cases l with
   | nil=>exact absurd rfl h0
   | cons x0 l =>
   have hx0:=hs x0 (by simp)
   refine xh (n:=0) (x:=x0) hv rfl (aW (by simp; omega) (by simp; omega)) fun bn be bt dZ d1 d2 d3 f1 f2 f3 k1 k2 k3 e4=>?_
   have m6n:=e4.bo U9
   have en:(((0:Nat):Int)+x0.size)=mR (x0::l):=by simp [mR]
   rw [en] at k2
   have nn:bn ≠ b6:=fun e=>by rw [e] at f1; exact dc U9 f1
   have ne:be ≠ b6:=fun e=>by rw [e] at f2; exact dc U9 f2
   have nt:bt ≠ b6:=fun e=>by rw [e] at f3; exact dc U9 f3
   refine C1 (fun ks U=>U.box b6=some [.int .i64 (ks.length:Nat)]/\U.box bn=some [.int .i64 ((0:Nat):Int)]/\U.box be=some [.int .i64 (mR (x0::l))]/\U.box bt=some [v8]/\True) (fun _=>False) hv (by simp) (by omega) uu
    (fun ks U h=>h.2.imp id fun h=>h.imp id fun h=>h.1) (fun ks U o L L' h hL=>?_) (fun ks U o L h ho=>?_) (fun _ _ _ _ h=>h.elim) (fun ks fI x eW o L1 q hI hx aM pE hnk jQ _ hL hn hr=>?_) (fun ks eW o L iq hI hL=>?_) (fun _ _ _ h=>h.elim) ⟨m6n,k1,k2,k3,trivial⟩
   . exact ⟨by rw [bf (bV h.1 hL)]; exact h.1,by rw [bf (bV h.2.1 hL)]; exact h.2.1,by rw [bf (bV h.2.2.1 hL)]; exact h.2.2.1,by rw [bf (bV h.2.2.2.1 hL)]; exact h.2.2.2.1,h.2.2.2.2⟩
   . have e:=bE ho (x:=.loop L)
     exact ⟨e.bo h.1,e.bo h.2.1,e.bo h.2.2.1,e.bo h.2.2.2.1,h.2.2.2.2⟩
   . obtain ⟨i1,i2,i3,i4,i5⟩:=hI
     rw [iZ i1,dQ,bN,cr]
     refine ⟨aW (by omega) (by omega),?_⟩
     rw [dP i1]
     refine ⟨⟨rfl,rfl,by simp⟩,?_⟩
     refine hn _ ⟨by rw [bD]; simp [aK],by rw [bf nn]; exact i2,by rw [bf ne]; exact i3,by rw [bf nt]; exact i4,trivial⟩ (hs x (fl hx)).2 (by rw [fT]; exact hL; rw [dy,if_neg (bV i1 hL).symm])
   . obtain ⟨i1,i2,i3,i4,i5⟩:=hI
     have i1':(eW.del o).box b6=some [.int .i64 (ks.length:Nat)]:=by rw [jv (bV i1 hL)]; exact i1
     show (ah (some (false,1)) (.box b6 0) (eW.del o)).wp K (eW.del o) _ _
     rw [iZ i1',dQ,bN]
     simp only [cx,al]
     subst iq
     refine aj.mk ?_
     have:=hR (eW.del o)
     have e:decide ((24:Int) < ((fy (x0::l) (mR (x0::l)) (x0::l).length (0+1)).length:Nat))=decide (24 < (fy (x0::l) (mR (x0::l)) (x0::l).length 1).length):=by
      rw [o3]; simp only [da,dI]; omega
     rw [e]; exact this
end Go.Rip
namespace Go.Rip
open Go.Proofs Go.RowKit
theorem Fm {U:St} {a b:Nat} {l:List AV} (h:b ≠ a):(U.cG a l).live b=U.live b:=by
 simp [St.cG,St.set,h]
section
variable {X:Rx} {r i:Nat} {U:St} {R:cO->St->Prop}
end
def BA (l:List Nd):AV:=if l=[] then .aA else .vec l.length .kV (c8 l)
end Go.Rip
