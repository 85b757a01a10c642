/- Lemmas for the proof: no conditions. -/
import Derived.Test.YtnfpmiiopiinbaaGreatDoorRipZz
import Derived.Test.YtnfpmiiopiinbaaGreatDoorRipM
import Derived.Test.YtnfpmiiopiinbaaGreatDoorRipF
import Derived.Test.YtnfpmiiopiinbaaGreatDoorRipG
import Derived.Test.YtnfpmiiopiinbaaGreatDoorRipH
import Derived.Test.YtnfpmiiopiinbaaGreatDoorRipE
set_option linter.unusedVariables false
set_option linter.unusedSimpArgs false
set_option linter.loopingSimpArgs false
namespace Go.Rip
open Go.RowKit
structure Rx where
 L:List Tk
 E:Nat
 tv:AV
 tr:gx tv L.length (gB L)
 ok:∀ t∈L,jM t
 small:L.length<=900
def rd (X:Rx) (i:Nat):List AV:=[X.tv,.int .i64 i,.int .i64 X.E,zi,pb]
def He (X:Rx) (i:Nat):AV:=.iface 136 (.agg [.int .i64 (cU X.L X.E i)])
theorem gx.len {v:AV} {n:Nat} {cs:List AV} (h:gx v n cs):bR (some false) v=.val (.int .i64 n):=by
 rcases h with ⟨rfl,rfl,rfl⟩|⟨c,rfl⟩<;>rfl
theorem gx.at {v:AV} {n:Nat} {cs:List AV} (h:gx v n cs) {sz e j:Nat} (hj:j<n):∃ c,v=.vec n c cs/\aJ (some (e,sz)) none v (.int .i64 (j:Int))=.cond (0<=(j:Int)/\(j:Int)<n) (.val (.ca (cs.drop (j*sz)))):=by
 rcases h with ⟨rfl,rfl,rfl⟩|⟨c,rfl⟩
 . omega
 . exact⟨c,rfl,by simp⟩
theorem sM:∀ i,closed (K.wh i)=true:=λ i=>by
 show closed (if i=0 then .ca tg else if i=7 then .ca tP else .any)=true
 split
 . kernel_rfl
 . split
   . kernel_rfl
   . rfl
theorem Pure.of {f:Nat} {args:List AV} {x:AV} (hargs:bG args=true) (hx:closed x=true) (hr:∀ U,resolve 5 U x=x)
 (h:∀ R:cM->St->Prop,(∀ ad,R (.ret x) ad)->ae K f args (bK ⟨.e,0⟩) R):Pure K f args x :=
 Pure.xT sM hargs hx 5 (h _ λ ad=>⟨x,rfl,hr ad⟩)
def idx (l:List aT) (s:aT):Int:=match l.findIdx? (·=s) with|some i=>i|none=>-1
theorem Jh (c:kf) (l:List aT) (s:aT) (hn:l.length<=100000):Pure K 230 [.vec l.length c (l.map .str),.str s] (.int .i64 (idx l s)):=by
 intro U R hR;refine NU ?_;simp only[NT,qN,ak];refine⟨λ m v0 v1 v7 v8 ad=>∃ i:Nat,m=l.length-i/\i<=l.length/\v0=.vec l.length c (l.map .str)/\v1=.str s/\v7=.int .i64 l.length/\v8=.int .i64 i/\ad=U/\∀ j,j<i->l[j]?≠some s,⟨l.length,0,by simp[Fn.app]⟩,?_⟩;intro m v0 v1 v7 v8 ad hI;obtain⟨i,rfl,hi,rfl,rfl,rfl,rfl,rfl,fL⟩:=hI;simp only[bX,ak,bJ];refine⟨λ aL=>?_,λ jW=>?_⟩
 . have aL:i<l.length:=by omega
   have hd:(l.map AV.str).drop (i*1)=.str l[i]::(l.map AV.str).drop (i+1):=by
    rw[Nat.mul_one,iq (by simpa using aL)]; simp
   simp only[vG,wp_cond,ak,iJ,hd,sj,dj,jO,bJ];refine⟨by omega,λ he=>?_,λ cv=>?_⟩
   . refine aq.eq hR ?_;have:l.findIdx? (·=s)=some i:=by
      rw[Fx];refine⟨aL,by simp[he],λ j hj=>?_⟩;have:=fL j hj;rw[nq (by omega)]at this;simpa using this
     simp[idx,this]
   . simp only[jN,fx,wp_cond,ak];refine⟨bD (by omega) (by omega),?_⟩;refine⟨l.length-(i+1),by omega,i+1,rfl,by omega,rfl,rfl,rfl,by simp,rfl,λ j hj=>?_⟩
     . rcases gI j i with h|h
       . exact fL j h
       . have:j=i:=by omega
         subst this;rw[nq aL]; simpa using λ h=>cv h.symm
 . refine aq.eq hR ?_;have:l.findIdx? (·=s)=none:=by
    rw[List.findIdx?_eq_none_iff];intro x hx;obtain⟨j,hj,rfl⟩:=List.getElem_of_mem hx;have:=fL j (by omega);rw[nq hj]at this;simpa using this
   simp[idx,this]
section
variable {X:Rx} {r i:Nat} {U:St} {R:cM->St->Prop}
theorem Fq (hr:U.box r=some (rd X i)) (h:R (.ret (.int .i64 (cU X.L X.E i))) U):ae K 164 [.box r 0] U R:=by
 refine Nq ?_;simp only[Np,bS,aD,aN,ld hr,rd,List.drop,dj,X.tr.len,bX,bJ,ak,cq];refine⟨λ aL=>?_,λ jW=>?_⟩
 . have aL:i<X.L.length:=by omega
   obtain⟨c,hv,oe⟩:=X.tr.at (sz:=3) (e:=51) aL;obtain⟨t,ht⟩:∃ t,X.L[i]?=some t:=⟨X.L[i],by simp[aL]⟩;obtain⟨rest,hd⟩:=tV ht;simp only[oe,gP,aD,hd,di,sj,jK,gY,iK,List.drop,dj];refine⟨by omega,aq.mk ?_⟩;have:cU X.L X.E i=t.at_:=by simp[cU,ht]
   rw[<- this]; exact h
 . refine aq.mk ?_;have:cU X.L X.E i=X.E:=by simp[cU,rE (show X.L.length<=i by omega)]
   rw[<- this]; exact h
def ox:Option Tk->List AV
 | some t=>jK t
 | none=>[.int .u8 0,.str [],.int .i64 0]
theorem nX (hr:U.box r=some (rd X i)) (hi:i<=X.L.length) (k:Nat) (hk:k<=10) (h:∀ ad,cG U ad->R (.ret (.agg (ox X.L[i+k]?))) ad):ae K 167 [.box r 0,.int .i64 k] U R:=by
 refine Nu ?_;have hs:=X.small;simp only[Nt,nK];intro b hb;have Hz:=hb.bP hr;have ED:(U.new b (.box [AV.int .u8 0,AV.str [],AV.int .i64 0])).box r=some (rd X i):=by rw[mF Hz]; exact hr
 have hb1:(U.new b (.box [AV.int .u8 0,AV.str [],AV.int .i64 0])).box b=some [AV.int .u8 0,AV.str [],AV.int .i64 0]:=aI;simp only[NV.at,bS,aD,aN,ld ED,rd,List.drop,dj,X.tr.len,jN,fx,gP,bX,bJ,ak,cq];refine⟨bD (by omega) (by omega),λ aL=>?_,λ jW=>?_⟩
 . have aL:i+k<X.L.length:=by omega
   obtain⟨c,hv,oe⟩:=X.tr.at (sz:=3) (e:=51) aL;obtain⟨t,ht⟩:∃ t,X.L[i+k]?=some t:=⟨X.L[i+k],by simp[aL]⟩;obtain⟨rest,hd⟩:=tV ht;rw[<- Int.natCast_add];simp only[oe,gP,aD,hd,JB,xq hb1,wp_cond,jL];refine⟨bD (by omega) (by omega),by omega,by simp[jK],by simp[jK],?_⟩;rw[sR (LA (aX) 3 0)];refine⟨by simp[ax,jK],?_⟩;refine aq.eq (h _ (((cG.refl U).new hb).set hb.1)) ?_;simp[ax,jK,ht,ox]
 . simp only[cX,eS,ak,xq hb1,wp_cond,jL];refine⟨by simp,?_⟩;rw[sR (LA (aX) 3 0)];refine⟨by simp[ax],?_⟩;refine aq.eq (h _ (((cG.refl U).new hb).set hb.1)) ?_;simp[ax,rE (show X.L.length<=i+k by omega),ox]
def sS (o:Option Tk) (l:List aT):Bool:=match o with
 | some t=>(t.k==3||t.k==4)&&decide (t.s∈l)
 | none=>false
theorem Jg (l:List aT) (s:aT):decide (0<=idx l s)=decide (s∈l):=by
 unfold idx;split
 . rename_i j hj;obtain⟨h1,h2,_⟩:=Fx.1 hj;have:s∈l:=by have:=of_decide_eq_true h2; exact this▸List.getElem_mem h1
   simp[this]
 . rename_i hj;rw[List.findIdx?_eq_none_iff]at hj;have:s∉l:=λ hm=>by simpa using hj s hm
   simp[this]
theorem C8 (c:kf) (l:List aT) (s:aT) (hn:l.length<=100000):Pure K 178 [.vec l.length c (l.map .str),.str s] (.bool (decide (s∈l))):=by
 intro U R hR;refine Ny ?_;refine (Jh c l s hn).go ?_;simp only[iN,ak];refine aq.eq hR ?_;rw[Jg]
theorem y7 {c:kf} (o:Option Tk) (l:List aT) (hn:l.length<=100000) (h:∀ ad,cG U ad->R (.ret (.bool (sS o l))) ad):ae K 121 [.agg (ox o),.vec l.length c (l.map .str)] U R:=by
 refine MI ?_;have hl:∃ k s a,ox o=[.int .u8 k,.str s,.int .i64 a]/\sS o l=((decide (k=3)||decide (k=4))&&decide (s∈l)):=by
  cases o with
  | none=>exact⟨0,[],0,rfl,rfl⟩
  | some t=>exact⟨t.k,t.s,t.at_,rfl,by
     have e:∀ m:Nat,(t.k==m)=decide ((t.k:Int)=(m:Int)):=λ m=>by
      rw[oP]; simp; omega
     simp only[sS,e 3,e 4]; rfl⟩
 obtain⟨k,s,a,e1,e2⟩:=hl;rw[e1];simp only[MH,B5 _ (PE _),wp_cond,true_and,B6,nK];intro b_ hb;have hb1:(U.new b_ (.box [.int .u8 k,.str s,.int .i64 a])).box b_=some [.int .u8 k,.str s,.int .i64 a]:=aI;have hx:=h _ ((cG.refl U).new (x:=.box [.int .u8 k,.str s,.int .i64 a]) hb);rw[e2]at hx;simp only[NV.at,aN,ak,ld hb1,List.drop,dj,bw,bj,aP,mN,cq];have K4:=C8 c l s hn;have step:∀ b:Bool,((decide (k=3)||decide (k=4))&&decide (s∈l))=b->aq R (.bool b) (U.new b_ (.box [.int .u8 k,.str s,.int .i64 a])):=λ b e=>by subst e; exact aq.mk hx
 by_cases h3:k=3
 . subst h3;simp[ld hb1];exact⟨_,K4,step _ (by simp)⟩
 . by_cases h4:k=4
   . subst h4;simp[ld hb1];exact⟨_,K4,step _ (by simp)⟩
   . simp[ld hb1,h3,h4];exact step _ (by simp[h3,h4])
theorem Gq (s w:aT):decide (s∈[w])=(s==w):=by
 by_cases h:s=w
 . simp[h]
 . simp[h]
theorem xU (L:List Tk) (i:Nat) (w:aT):sS L[i]? [w]=bB L i w:=by
 unfold sS bB;split
 . rename_i t ht; rw[ht,Gq]
 . rename_i ht; rw[ht]
theorem Jo {c:kf} (hr:U.box r=some (rd X i)) (hi:i<=X.L.length) (l:List aT) (hn:l.length<=100000) (h:∀ ad,cG U ad->R (.ret (.bool (sS X.L[i]? l))) ad):ae K 105 [.box r 0,.vec l.length c (l.map .str)] U R:=by
 refine My ?_;refine nX hr hi 0 (by omega) λ bF e1=>?_;refine y7 (X.L[i]?) l hn λ bI e2=>?_;exact aq.mk (h _ (e1.trans e2))
theorem Fa (hr:U.box r=some (rd X i)) (hi:i<=X.L.length) (w:aT)
 (h1:bB X.L i w=true->∀ ad,eP r (rd X (i+1)) U ad->R (.ret (.bool true)) ad) (h2:bB X.L i w=false->∀ ad,cG U ad->R (.ret (.bool false)) ad):ae K 100 [.box r 0,.str w] U R:=by
 refine Mr ?_;have hs:=X.small;simp only[Mq,aF,eS,B7,PG,bN,wp_cond,ak,ax,List.take,List.drop,iK,gY,jn];refine⟨by omega,by simp,by simp,?_⟩;refine Jo (l:=[w]) hr hi (by simp) λ bF e1=>?_;have ED:=e1.bf hr;simp only[bA,dr,ak,xU];cases hw:bB X.L i w with
 | false=>simp only[dZ,a8]; exact aq.mk (h2 hw _ e1)
 | true =>
   simp only[cT,aW,bS,ak,aN,ld ED,rd,List.drop,dj,cq,jN,fx,wp_cond,xq ED,jL];refine⟨bD (by omega) (by omega),by simp,aq.mk (h1 hw _ ⟨?_,(e1.D8 (r:=r)).set (.inr rfl)⟩)⟩;rw[aX]; simp[ax,rd]
theorem Hc (hr:U.box r=some (rd X i)) (h:R (.panic (He X i)) U):ae K 166 [.box r 0] U R:=by
 refine Ns ?_;refine Fq hr ?_;simp only[bA,cX,eS,Kw,PF,wp_cond,ak,ax,uM,if_true,rB,QW];refine⟨by simp,?_⟩;exact h
theorem BC (hr:U.box r=some (rd X i)) (hi:i<=X.L.length) (w:aT)
 (h1:bq X.L w i=.ok () (i+1)->i+1<=X.L.length->∀ ad,eP r (rd X (i+1)) U ad->R (.ret (.aQ [])) ad) (h2:bq X.L w i=.bad i->∀ ad,eP r (rd X i) U ad->R (.panic (He X i)) ad):ae K 102 [.box r 0,.str w] U R:=by
 refine Mt ?_;refine Fa hr hi w (λ hw bF a1=>?_) (λ hw bF e1=>?_)
 . simp only[bA,dr,ak,cT,aW];exact aq.mk (h1 (by simp[bq,hw]) (bp hw) _ a1)
 . simp only[bA,dr,ak,dZ,a8];exact Hc (e1.bf hr) (h2 (by simp[bq,hw]) _ (.pX hr e1))
theorem sA (o:Option Tk):∃ k:Int,∃ s a,ox o=[.int .u8 k,.str s,.int .i64 a]/\(∀ m:Nat,0<m->(k=(m:Int)↔∃ t,o=some t/\t.k=m/\t.s=s)):=by
 cases o with
 | none=>exact⟨0,[],0,rfl,λ m hm=>⟨λ h=>by omega,λ ⟨t,h,_⟩=>by cases h⟩⟩
 | some t=>exact⟨t.k,t.s,t.at_,rfl,λ m hm=>⟨λ h=>⟨t,rfl,by omega,rfl⟩,λ ⟨u,h,h2,h3⟩=>by cases h; omega⟩⟩
theorem LZ (hr:U.box r=some (rd X i)) (hi:i<=X.L.length) (k:Nat) (hk:0<k)
 (h1:∀ t,X.L[i]?=some t->t.k=k->i+1<=X.L.length->∀ ad,eP r (rd X (i+1)) U ad->R (.ret (.str t.s)) ad) (h2:(∀ t,X.L[i]?=some t->t.k≠k)->∀ ad,eP r (rd X i) U ad->R (.panic (He X i)) ad):ae K 165 [.box r 0,.int .u8 k] U R:=by
 refine Nr ?_;have hs:=X.small;refine nX hr hi 0 (by omega) λ bF e1=>?_;have ED:=e1.bf hr;obtain⟨m,s,a,e,hm⟩:=sA X.L[i+0]?;rw[e];simp only[bA,nK];intro b hb;have Hz:=hb.bP ED;have e2:=e1.new (x:=.box [AV.int .u8 0,AV.str [],AV.int .i64 0]) hb;have hb1:(bF.new b (.box [AV.int .u8 0,AV.str [],AV.int .i64 0])).box b=some [AV.int .u8 0,AV.str [],AV.int .i64 0]:=aI;simp only[NV.at,xq hb1,wp_cond,jL];refine⟨by simp,?_⟩;have e3:=e2.set (x:=.box (ax [AV.int .u8 0,AV.str [],AV.int .i64 0] 0 (au (.agg [.int .u8 m,.str s,.int .i64 a])))) (e1.fresh hb.1);generalize nD:(bF.new b (.box [AV.int .u8 0,AV.str [],AV.int .i64 0])).set b (.box (ax [AV.int .u8 0,AV.str [],AV.int .i64 0] 0 (au (.agg [.int .u8 m,.str s,.int .i64 a]))))=cj at e3 ⊢;have kL:cj.box b=some [.int .u8 m,.str s,.int .i64 a]:=by rw[<- nD,aX]; rfl
 have vE:=e3.bf hr;intro j hj;simp only[aN,ak,ld kL,List.drop,dj,cq,cP,aA,Bool.not_eq_true',decide_eq_false_iff_not,Bool.not_eq_false',dJ];refine⟨λ cv=>?_,λ heq=>?_⟩
 . refine Hc vE ?_;exact h2 (λ t ht he=>cv ((hm k hk).2 ⟨t,ht,he,by rw[Nat.add_zero,ht]at e; cases e; rfl⟩)) _ (.pX hr e3)
 . obtain⟨t,ht,qZ,wx⟩:=(hm k hk).1 heq;have aL:=(dp.1 ht).1;refine hj _ _ _ ?_;simp only[bS,ak,aN,ld vE,rd,List.drop,dj,cq,jN,fx,wp_cond,xq vE,jL];refine⟨bD (by omega) (by omega),by simp,?_⟩;rw[jL];generalize EN:cj.set r _=cm;have pU:cm.box b=some [.int .u8 m,.str s,.int .i64 a]:=by rw[<- EN,aM (Ne.symm Hz)]; exact kL
   have EE:cm.box r=some (rd X (i+1)):=by rw[<- EN,aX]; simp[ax,rd]
   have e4:gR r U cm:=by rw[<- EN]; exact (e3.D8 (r:=r)).set (.inr rfl)
   simp only[ld pU,List.drop,dj,ak];refine aq.mk ?_;rw[<- wx];exact h1 t ht qZ aL _ ⟨EE,e4⟩
theorem Te (hr:U.box r=some (rd X i)) (hi:i<=X.L.length)
 (h1:∀ x,eK X.L i=.ok x (i+1)->i+1<=X.L.length->∀ ad,eP r (rd X (i+1)) U ad->R (.ret (.str x)) ad) (h2:eK X.L i=.bad i->∀ ad,eP r (rd X i) U ad->R (.panic (He X i)) ad):ae K 101 [.box r 0] U R:=by
 refine Ms ?_;refine LZ hr hi 1 (by omega) (λ t ht hk hl bF a1=>?_) (λ hn bF a1=>?_)
 . exact aq.mk (h1 t.s (by simp[eK,ht,hk]) hl _ a1)
 . refine h2 ?_ _ a1;unfold eK;split
   . rename_i t ht; rw[if_neg (hn t ht)]
   . rfl
end
end Go.Rip
namespace Go.Rip
open Go.Proofs Go.RowKit
theorem Pure.LX {f:FuncId} {args:List AV} {vs:List Value} {x:AV} {v:Value} (hargs:∀ g us,aC g args us->us=vs) (hx:∀ g,av g x v)
 (h:∀ w,Calls K.P f vs.toArray w λ e w'=>e=.returned v/\w.grownBy w' none):Pure K f args x:=by
 intro U R hR g w us hs hG ha;have:=hargs g us ha;subst this;refine callsIn_wide.2 ((h w).mono λ e w' ⟨h1,h2⟩=>?_);subst h1;exact⟨g,U,x,Gh.Le.refl g,hs.grow h2,hx g,hR⟩
theorem Gk (w:World) (e:TypeId) (s:ByteArray):w.grownBy (Lib.bytesWorld w e s) none:=by
 have cv:∀ q,q<w.heap.size->w.heap.size≠q:=λ q h=>by omega
 unfold Lib.bytesWorld World.freeze;split
 . exact⟨rfl,rfl,rfl,by simp[World.alloc,World.drew,-World.alloc_eq,-World.drew_eq],λ q hq _=>by simp[World.alloc,World.drew,-World.alloc_eq,-World.drew_eq,Array.getElem?_push,Nat.ne_of_lt hq]⟩
 . refine⟨rfl,rfl,rfl,by simp[World.alloc,World.drew,-World.alloc_eq,-World.drew_eq],λ q hq _=>?_⟩;simp[World.alloc,World.drew,-World.alloc_eq,-World.drew_eq,Array.getElem?_modify,Array.getElem?_push,cv q hq,Nat.ne_of_lt hq]
theorem Km (s:aT) (h0:s≠[]) (h:nU s=0):Pure K 218 [.str s] (.aQ [.int .i64 (uo s),.cS]):=by
 obtain⟨h1,h2,_⟩:=CN h0 h;refine Pure.LX (vs:=[.string ⟨s.toArray⟩]) (v:=.tuple #[.int .i64 (uo s),.nilIface]) (λ g us hr=>PW hr) (λ g=>by simp[av,aC]) λ w=>?_;refine (Tryz.strconv_Atoi ⟨s.toArray⟩ (uo s) (by show s.toArray.size<=18; simp; omega) (OP h0 (HS h).1) w).mono λ e w' ⟨he,t,hw⟩=>⟨he,?_⟩;subst hw;exact Gk _ _ _
section
variable {X:Rx} {r i:Nat} {U:St} {R:cM->St->Prop}
theorem LU (hr:U.box r=some (rd X i)) (hi:i<=X.L.length)
 (h1:∀ x,fW X.L i=.ok x (i+1)->i+1<=X.L.length->∀ ad,eP r (rd X (i+1)) U ad->R (.ret (.int .i64 x)) ad) (h2:fW X.L i=.bad i->∀ ad,eP r (rd X i) U ad->R (.panic (He X i)) ad):ae K 168 [.box r 0] U R:=by
 refine Nv ?_;refine LZ hr hi 2 (by omega) (λ t ht hk hl bF a1=>?_) (λ hn bF a1=>?_)
 . have cw:=X.ok t (gA ht);refine (Km t.s cw.1 (HU cw hk)).go ?_;simp only[bh,List.drop,dj,ak,aw,if_true];intro j hj;simp only[and_self,if_true,ak,aW];exact hj _ _ (aq.mk (h1 _ (by simp[fW,ht,hk]) hl _ a1))
 . refine h2 ?_ _ a1;unfold fW;split
   . rename_i t ht; rw[if_neg (hn t ht)]
   . rfl
def gz (kind:Int) (text:aT) (n m at_:Int) (kv:AV):List AV:=[.int .u8 kind,.str text,.int .i64 n,.int .i64 m,.int .i64 at_,.int .i64 0,kv]
def Grow (U:St) (v:AV) (e:TypeId) (sz n:Nat) (l:List AV):Prop:=(n=0/\l=[]/\v=.ag)\/∃ τ,v=.vec n (.own τ) l/\U.tok τ=some ⟨n,e,sz⟩/\l.length=n*sz
def TO (az:St) (v:AV):Prop:=∀ n τ l,v=.vec n (.own τ) l->az.live τ=none
theorem yg {e sz n m:Nat} {v y:AV} {l l2:List AV} {K':AV->St->Prop} {Kp:AV->St->Prop} (hg:Grow U v e sz n l) (hy:qo U y=some (m,l2)) (hl:l2.length=m*sz) (hm:0<m) (hb:n+m<=4294967296) (h0:n=0->v=.ag)
 (h:∀ ad v',Grow ad v' e sz (n+m) (l++l2)->(∀ b x,(∀ n l,v≠.vec n (.own b) l)->U.live b=some x->ad.live b=some x)->(∀ n τ l,v'=.vec n (.own τ) l->U.live τ=none\/∃ n l,v=.vec n (.own τ) l)->K' v' ad):(ek (some (e,sz)) false v y U).wp K U K' Kp:=by
 rcases hg with ⟨rfl,rfl,rfl⟩|⟨τ,rfl,ht,Ht⟩
 . have K7:m≠0:=by omega
   simp only[ek,hy,if_neg K7,bQ,if_false,wp_cond];refine⟨hl,by omega,λ b dR=>?_⟩;refine h _ _ (.inr ⟨b,by simp[NV.at],by rw[cq]; exact AO,by simp[hl]⟩) (λ c x hc hx=>(bC dR) c x hx) λ n τ l hv=>?_;simp only[NV.at,AV.vec.injEq,kf.own.injEq]at hv;exact .inl (hv.2.1▸dR.1)
 . have Ae:n≠0:=λ e=>by have:=h0 e; cases this
   simp only[ek,hy,wp_cond];refine⟨hl,⟨ht,Ht,hb⟩,λ b dR=>?_⟩;refine h _ _ (.inr ⟨b,rfl,AO,by simp[hl,Ht,Nat.add_mul]⟩) (λ c x hc hx=>?_) λ n' sF l' hv=>?_
   . refine (bC dR) c x ?_;have cv:c≠τ:=λ e=>hc n l (by rw[e]);show (U.del τ).live c=some x;rw[mf,if_neg cv]; exact hx
   . simp only[NV.at,AV.vec.injEq,kf.own.injEq]at hv;have hf:=dR.1;rw[<- hv.2.1]
     by_cases e:b=τ
     . subst e; exact .inr ⟨_,_,rfl⟩
     . left;have:(U.del τ).live b=none:=hf;rw[mf,if_neg e]at this; exact this
structure Mk (az U:St) (r k:Nat) (kind:Int) (text:aT) (n m at_:Int) (ks:List AV):Prop where
 box:∃ kv,U.box k=some (gz kind text n m at_ kv)/\Grow U kv 87 1 ks.length ks/\TO az kv/\(ks=[]->kv=.ag)
 new:az.live k=none
 ne:k≠r
inductive c7:Bool->List AV->List Nd->Prop
 | mk {kind:Int} {text:aT} {n m at_:Int} {kv:AV} {ks:List AV} {l:List Nd}:c7 true ks l->(ks=[]/\kv=.ag\/∃ c,kv=.vec ks.length c ks)->c7 false [.ca (gz kind text n m at_ kv)] (node kind text n m at_ l)
 | nil:c7 true [] []
 | cons {a:AV} {ks:List AV} {l l':List Nd}:c7 false [a] l->c7 true ks l'->c7 true (a::ks) (l++l')
theorem c7.snoc {ks:List AV} {l:List Nd} {a:AV} {l':List Nd} (h:c7 true ks l) (k:c7 false [a] l'):c7 true (ks++[a]) (l++l'):=by
 generalize hb:true=b at h
 induction h with
 | mk _ _ _=>cases hb
 | nil=>simpa using c7.cons k c7.nil
 | cons h1 h2 _ ih=>rw[nu]; exact .cons h1 (ih rfl)
theorem c7.one {a:AV} {l:List Nd} (k:c7 false [a] l):c7 true [a] l:=by simpa using c7.cons k c7.nil
section
variable {X:Rx} {r i j k:Nat} {az U ad:St} {R:cM->St->Prop} {kind:Int} {text:aT} {n m at_:Int} {ks:List AV}
theorem Mk.eU {l:List AV} (M:Mk az U r k kind text n m at_ ks) (a:eP r l U ad) {l':List AV} (hr:U.box r=some l'):Mk az ad r k kind text n m at_ ks:=by
 obtain⟨kv,h1,h2,h3,h4⟩:=M.box;refine⟨⟨kv,a.ex.bf M.ne h1,?_,h3,h4⟩,M.new,M.ne⟩;rcases h2 with h2|⟨τ,e,ht,hl⟩
 . exact .inl h2
 . exact .inr ⟨τ,e,a.ex.tok (eo hr ht).symm ht,hl⟩
theorem Mk.xq (M:Mk az U r k kind text n m at_ ks) {o w:Nat} {v:AV} {RH:Int} {Sr:aT} {n' m' U0:Int} {K':AV->St->Prop} {Kp:AV->St->Prop} {t:Bool}
 (hs:∀ kv,v.cA=true/\(au v).length=w/\o+w<=(gz kind text n m at_ kv).length/\ax (gz kind text n m at_ kv) o (au v)=gz RH Sr n' m' U0 kv)
 {L:List AV} (A:eP r L az U)
 (h:∀ ad,Mk az ad r k RH Sr n' m' U0 ks->eP r L az ad->K' (.aQ []) ad):(aG (some (t,w)) (.box k o) v U).wp K U K' Kp:=by
 obtain⟨kv,h1,h2,h3,h4⟩:=M.box;obtain⟨s1,s2,s3,s4⟩:=hs kv;rw[cL h1,s4];refine⟨⟨s1,s2,s3⟩,h _ ⟨⟨kv,aX,?_,h3,h4⟩,M.new,M.ne⟩ ⟨by rw[aM M.ne.symm]; exact A.box,A.ex.set (.inl M.new)⟩⟩;rcases h2 with h2|⟨τ,e,ht,hl⟩
 . exact .inl h2
 . exact .inr ⟨τ,e,by rw[iL (eo h1 ht).symm]; exact ht,hl⟩
theorem Tr (hr:U.box r=some (rd X i)) (kind:Int) (h:∀ k ad,Mk U ad r k kind [] 0 0 (cU X.L X.E i) []->eP r (rd X i) U ad->R (.ret (.box k 0)) ad):ae K 99 [.box r 0,.int .u8 kind] U R:=by
 refine Ql ?_;refine Fq hr ?_;refine kj [.int .u8 kind,.str [],.int .i64 0,.int .i64 0,.int .i64 (cU X.L X.E i),.int .i64 0] rfl ?_;refine kj (gz kind [] 0 0 (cU X.L X.E i) .ag) rfl ?_;rw[fY rfl];intro b hb;exact aq.mk (h b _ ⟨⟨_,aI,.inl ⟨rfl,rfl,rfl⟩,(λ _ _ _ e=>by cases e),λ _=>rfl⟩,hb.1,(hb.bP hr).symm⟩ (.pX hr ((cG.refl U).new hb)))
theorem Ip {L:List AV} {mm:Nat} {c:kf} {l2:List AV} (M:Mk az U r k kind text n m at_ ks) (A:eP r L az U) (hm:0<mm) (hl:l2.length=mm) (hb:ks.length+mm<=4294967296)
 (h:∀ ad,Mk az ad r k kind text n m at_ (ks++l2)->eP r L az ad->aq R (.box k 0) ad):ae K 103 [.box k 0,.vec mm c l2] U R:=by
 refine Mv ?_;obtain⟨kv,h1,h2,h3,h4⟩:=M.box;simp only[Mu,bS,ak,aN,eO h1,gz,List.drop,bl,cq];refine yg h2 rfl (by simp[hl]) hm hb (λ e=>h4 (oQ.1 e)) λ bF v' g1 e1 n1=>?_;have k1:bF.box k=some (gz kind text n m at_ kv):=by
  cases e:U.live k with
  | none=>exact absurd e (dA h1)
  | some x =>
    have:=e1 k x (λ n' l' hv=>by
     rcases h2 with ⟨_,_,h2⟩|⟨τ,h2,ht,_⟩
     . rw[h2]at hv; cases hv
     . rw[h2]at hv; cases hv; exact eo h1 ht rfl) e
    rw[dx (this.trans e.symm)]; exact h1
 have A1:eP r L az bF:=by
  have key:∀ b x,az.live b=some x->U.live b=some x->bF.live b=some x:=λ b x hx hy=>e1 b x (λ n' l' hv=>by rw[h3 _ _ _ hv]at hx; cases hx) hy;refine⟨?_,λ b x hbr hx=>key b x hx (A.ex b x hbr hx)⟩;cases e:U.live r with
  | none=>exact absurd e (dA A.box)
  | some x =>
    have:=e1 r x (λ n' l' hv=>by
     rcases h2 with ⟨_,_,h2⟩|⟨τ,h2,ht,_⟩
     . rw[h2]at hv; cases hv
     . rw[h2]at hv; cases hv; exact eo A.box ht rfl) e
    rw[dx (this.trans e.symm)]; exact A.box
 rw[cL k1];have cv:v'≠.ag:=by
  rcases g1 with ⟨h0,_,_⟩|⟨τ,e,_⟩
  . omega
  . rw[e]; simp
 have cA:v'.cA=true/\au v'=[v']:=by
  rcases g1 with ⟨h0,_,_⟩|⟨τ,e,_⟩
  . omega
  . rw[e]; exact⟨rfl,rfl⟩
 refine⟨⟨cA.1,by rw[cA.2]; rfl,by simp[gz]⟩,(h _ ⟨⟨v',?_,?_,λ n' sF l' hv=>?_,λ e=>?_⟩,M.new,M.ne⟩ ⟨by rw[aM M.ne.symm]; exact A1.box,A1.ex.set (.inl M.new)⟩)⟩
 . rw[aX,cA.2]; rfl
 . rw[eG,hl];rcases g1 with h0|⟨τ,e,ht,hl⟩
   . exact .inl h0
   . exact .inr ⟨τ,e,by rw[iL (eo k1 ht).symm]; exact ht,hl⟩
 . rcases n1 n' sF l' hv with hx|⟨n2,l2',hx⟩
   . cases e:az.live sF with
     | none=>rfl
     | some x =>
       by_cases Z6:sF=r
       . subst Z6; exact absurd hx (dA A.box)
       . have:=A.ex sF x Z6 e; rw[hx]at this; cases this
   . exact h3 _ _ _ hx
 . have:l2=[]:=(List.append_eq_nil_iff.1 e).2;subst this; simp at hl; omega
theorem TS {L:List AV} {mm:Nat} {c:kf} {l2:List AV} (M:Mk az U r k kind text n m at_ ks) (A:eP r L az U) (hm:0<mm) (hl:l2.length=mm) (hb:ks.length+mm<=4294967296)
 (h:∀ ad,Mk az ad r k kind text n m at_ (ks++l2)->eP r L az ad->R (.ret (.box k 0)) ad):ae K 103 [.box k 0,.vec mm c l2] U R:=Ip M A hm hl hb λ ad M A=>aq.mk (h ad M A)
theorem Mk.done {l:List AV} {ns:List Nd} (M:Mk az U r k kind text n m at_ ks) (hk:c7 true ks ns) (A:eP r l az U) (h:∀ a ad,c7 false [a] (node kind text n m at_ ns)->eP r l az ad->R (.ret a) ad):aq R (.box k 0) U:=by
 obtain⟨kv,h1,h2,h3,h4⟩:=M.box;refine⟨_,_,lH.freeze h1,h _ _ (.mk hk ?_) ⟨by rw[iD M.ne.symm]; exact A.box,A.ex.del (.inl M.new)⟩⟩;rcases h2 with ⟨e1,e2,e3⟩|⟨τ,e,_,_⟩
 . exact .inl ⟨e2,e3⟩
 . exact .inr ⟨_,e⟩
end
end
end Go.Rip
namespace Go.Rip
open Go.Proofs Go.RowKit
structure Out (X:Rx) (r:Nat) (az:St) (R:cM->St->Prop) (p:PR (List Nd)):Prop where
 ok:∀ ns j,p=.ok ns j->j<=X.L.length->∀ a ad,c7 false [a] ns->eP r (rd X j) az ad->R (.ret a) ad
 bad:∀ j,p=.bad j->∀ ad,eP r (rd X j) az ad->R (.panic (He X j)) ad
def Ct (X:Rx) (f:FuncId) (i:Nat) (p:PR (List Nd)):Prop:=∀ (r:Nat) (U:St) (R:cM->St->Prop),U.box r=some (rd X i)->Out X r U R p->ae K f [.box r 0] U R
structure Sk (X:Rx) (az:St) (r k i:Nat) (kind:Int) (text:aT) (n m at_:Int) (l:List Nd) (U:St):Prop where
 A:eP r (rd X i) az U
 hi:i<=X.L.length
 M:∃ ks,Mk az U r k kind text n m at_ ks/\c7 true ks l/\ks.length<=i
section
variable {X:Rx} {az U:St} {r k i:Nat} {kind:Int} {text:aT} {n m at_:Int} {l:List Nd} {R:cM->St->Prop} {K':AV->St->Prop} {Kp:AV->St->Prop} {w:aT} {f:FuncId}
theorem Sk.eU (S:Sk X az r k i kind text n m at_ l U) {ad:St} {j:Nat} (A:eP r (rd X j) U ad) (hj:j<=X.L.length) (dV:i<=j):Sk X az r k j kind text n m at_ l ad:=by
 obtain⟨ks,h1,h2,h3⟩:=S.M;exact⟨S.A.trans A,hj,ks,h1.eU A S.A.box,h2,by omega⟩
theorem Out.eU {ad:St} {p:PR (List Nd)} {L:List AV} (O:Out X r U R p) (A:eP r L U ad):Out X r ad R p :=
 ⟨λ ns j h hj a bI k A2=>O.ok ns j h hj a bI k (A.trans A2),λ j h bI A2=>O.bad j h bI (A.trans A2)⟩
theorem eQ (hr:U.box r=some (rd X i)) (hi:i<=X.L.length) {kind:Int} (h:∀ k ad,Sk X U r k i kind [] 0 0 (cU X.L X.E i) [] ad->K' (.box k 0) ad):ae K 99 [.box r 0,.int .u8 kind] U (aj K' Kp) :=
 Tr hr kind λ k ad M A=>h k ad ⟨A,hi,[],M,.nil,by simp⟩
theorem cQ {q:Unit->Nat->PR (List Nd)} (S:Sk X az r k i kind text n m at_ l U) (O:Out X r az R ((bq X.L w i).bind q)) (h:∀ ad,Sk X az r k (i+1) kind text n m at_ l ad->Out X r az R (q () (i+1))->K' (.aQ []) ad):ae K 102 [.box r 0,.str w] U (aj K' (aa R)) :=
 BC S.A.box S.hi w (λ e hl ad A=>h ad (S.eU A hl (by omega)) (by rw[e]at O; exact O)) λ e ad A=>O.bad _ (by rw[e]; rfl) _ (S.A.trans A)
theorem kG {q:aT->Nat->PR (List Nd)} (S:Sk X az r k i kind text n m at_ l U) (O:Out X r az R ((eK X.L i).bind q)) (h:∀ x ad,Sk X az r k (i+1) kind text n m at_ l ad->Out X r az R (q x (i+1))->K' (.str x) ad):ae K 101 [.box r 0] U (aj K' (aa R)) :=
 Te S.A.box S.hi (λ x e hl ad A=>h x ad (S.eU A hl (by omega)) (by rw[e]at O; exact O)) λ e ad A=>O.bad _ (by rw[e]; rfl) _ (S.A.trans A)
theorem mw {q:Int->Nat->PR (List Nd)} (S:Sk X az r k i kind text n m at_ l U) (O:Out X r az R ((fW X.L i).bind q)) (h:∀ x ad,Sk X az r k (i+1) kind text n m at_ l ad->Out X r az R (q x (i+1))->K' (.int .i64 x) ad):ae K 168 [.box r 0] U (aj K' (aa R)) :=
 LU S.A.box S.hi (λ x e hl ad A=>h x ad (S.eU A hl (by omega)) (by rw[e]at O; exact O)) λ e ad A=>O.bad _ (by rw[e]; rfl) _ (S.A.trans A)
theorem oU (S:Sk X az r k i kind text n m at_ l U) (h1:bB X.L i w=true->∀ ad,Sk X az r k (i+1) kind text n m at_ l ad->K' (.bool true) ad) (h2:bB X.L i w=false->∀ ad,Sk X az r k i kind text n m at_ l ad->K' (.bool false) ad):ae K 100 [.box r 0,.str w] U (aj K' Kp) :=
 Fa S.A.box S.hi w (λ e ad A=>h1 e ad (S.eU A (bp e) (by omega))) λ e ad A=>h2 e ad (S.eU (.pX S.A.box A) S.hi (by omega))
theorem Og (S:Sk X az r k i kind text n m at_ l U) (h:∀ b ad,bB X.L i w=b->Sk X az r k i kind text n m at_ l ad->K' (.bool b) ad) :
 (aF (some (9,1)) (some [AV.str []]) 1 false [(0,.str w)]).wp K U (λ v U=>ae K 105 [.box r 0,v] U (aj K' Kp)) Kp:=by
 rw[fw];refine⟨by omega,?_⟩;rw[dQ (o:=0) (s:=1) rfl];refine⟨⟨rfl,rfl,by simp[bN]⟩,?_⟩;rw[gw];refine⟨rfl,?_⟩;refine Jo (l:=[w]) S.A.box S.hi (by simp) λ bF e1=>?_;exact h _ _ (by rw[xU]) (S.eU (.pX S.A.box e1) S.hi (by omega))
theorem kH {x:aT} (S:Sk X az r k i kind text n m at_ l U) (h:∀ ad,Sk X az r k i kind x n m at_ l ad->K' (.aQ []) ad):(aG (some (false,1)) (.box k 1) (.str x) U).wp K U K' Kp:=by
 obtain⟨ks,h1,h2,h3⟩:=S.M;exact h1.xq (λ kv=>⟨rfl,rfl,by simp[gz],rfl⟩) S.A λ ad M A=>h ad ⟨A,S.hi,ks,M,h2,h3⟩
theorem xY {x:Int} (S:Sk X az r k i kind text n m at_ l U) (h:∀ ad,Sk X az r k i x text n m at_ l ad->K' (.aQ []) ad):(aG (some (false,1)) (.box k 0) (.int .u8 x) U).wp K U K' Kp:=by
 obtain⟨ks,h1,h2,h3⟩:=S.M;exact h1.xq (λ kv=>⟨rfl,rfl,by simp[gz],rfl⟩) S.A λ ad M A=>h ad ⟨A,S.hi,ks,M,h2,h3⟩
theorem xp {x:Int} (S:Sk X az r k i kind text n m at_ l U) (h:∀ ad,Sk X az r k i kind text x m at_ l ad->K' (.aQ []) ad):(aG (some (false,1)) (.box k 2) (.int .i64 x) U).wp K U K' Kp:=by
 obtain⟨ks,h1,h2,h3⟩:=S.M;exact h1.xq (λ kv=>⟨rfl,rfl,by simp[gz],rfl⟩) S.A λ ad M A=>h ad ⟨A,S.hi,ks,M,h2,h3⟩
theorem abo {x:Int} (S:Sk X az r k i kind text n m at_ l U) (h:∀ ad,Sk X az r k i kind text n x at_ l ad->K' (.aQ []) ad):(aG (some (false,1)) (.box k 3) (.int .i64 x) U).wp K U K' Kp:=by
 obtain⟨ks,h1,h2,h3⟩:=S.M;exact h1.xq (λ kv=>⟨rfl,rfl,by simp[gz],rfl⟩) S.A λ ad M A=>h ad ⟨A,S.hi,ks,M,h2,h3⟩
theorem FO {a:AV} {ns:List Nd} {j:Nat} (S:Sk X az r k j kind text n m at_ l U) (hj:∀ ks,Mk az U r k kind text n m at_ ks->c7 true ks l->ks.length<=j->∃ ks',Mk az U r k kind text n m at_ ks'/\c7 true ks' l/\ks'.length+1<=j) (hk:c7 false [a] ns) (h:∀ ad,Sk X az r k j kind text n m at_ (l++ns) ad->K' (.box k 0) ad) :
 (aF (some (87,1)) (some [AV.aU]) 1 false [(0,a)]).wp K U (λ v U=>ae K 103 [.box k 0,v] U (aj K' (aa R))) (aa R):=by
 have ha:a.cA=true/\au a=[a]:=by
  generalize hb:false=b at hk;generalize hl:[a]=la at hk;cases hk with
  | mk _ _=>cases hl; exact⟨rfl,rfl⟩
  | nil=>cases hl
  | cons _ _=>cases hb
 rw[fw];refine⟨by omega,?_⟩;rw[dQ (o:=0) (s:=1) rfl];refine⟨⟨ha.1,by rw[ha.2]; rfl,by simp[bN]⟩,?_⟩;rw[gw];rw[ha.2];refine⟨rfl,?_⟩;obtain⟨ks0,g1,g2,g3⟩:=S.M;obtain⟨ks,h1,h2,h3⟩:=hj ks0 g1 g2 g3;have:=X.small;have hi:=S.hi;refine TS (l2:=[a]) h1 S.A (by omega) rfl (by omega) λ ad M A=>?_;exact h ad ⟨A,S.hi,_,M,h2.snoc hk,by simp; omega⟩
theorem fK {p:PR (List Nd)} {q:List Nd->Nat->PR (List Nd)} (S:Sk X az r k i kind text n m at_ l U) (C:Ct X f i p) (hp:Gd X.L.length (i+1) i p) (O:Out X r az R (p.bind q))
 (h:∀ ns j ad,j<=X.L.length->i<j->Sk X az r k j kind text n m at_ (l++ns) ad->Out X r az R (q ns j)->K' (.box k 0) ad) :
 ae K f [.box r 0] U (aj (λ v U=>(aF (some (87,1)) (some [AV.aU]) 1 false [(0,v)]).wp K U (λ v U=>ae K 103 [.box k 0,v] U (aj K' (aa R))) (aa R)) (aa R)):=by
 refine C r U _ S.A.box ⟨λ ns j e hj a ad hk A=>?_,λ j e ad A=>O.bad j (by rw[e]; rfl) ad (S.A.trans A)⟩;rw[e]at hp O;have dV:i<j:=hp.1;have S1:=S.eU A hj (by omega);refine FO S1 (λ ks _ _ _=>?_) hk λ bI S2=>h ns j bI hj dV S2 O;obtain⟨ks,h1,h2,h3⟩:=S.M;exact⟨ks,h1.eU A S.A.box,h2,by omega⟩
theorem du (S:Sk X az r k i kind text n m at_ l U) (O:Out X r az R (.ok (node kind text n m at_ l) i)):aq R (.box k 0) U:=by
 obtain⟨ks,h1,h2,h3⟩:=S.M;exact h1.done h2 S.A λ a ad hk A=>O.ok _ _ rfl S.hi a ad hk A
theorem AA:aa (aj K' Kp)=Kp:=rfl
theorem DJ {ir:FuncId} (he:dG K.P ir=true) {c:List AV}:(gi K.P (.func (.func ir) [.box r 0] []) []).wp K U K' Kp=ae K ir [.box r 0] U (aj K' Kp):=by
 simp[gi,he]
theorem BA {one:Nat->PR (List Nd)} {ir:FuncId} (he:dG K.P ir=true) (C:∀ i,i<=X.L.length->Ct X ir i (one i)) (hg:∀ i,i<=X.L.length->Gd X.L.length (i+1) i (one i))
 {fu:Nat} (hf:X.L.length-i<=fu) (h0:0<fu) {q:List Nd->Nat->PR (List Nd)} (S:Sk X az r k i kind text n m at_ l U) (O:Out X r az R ((gl X.L one fu i).bind q))
 (h:∀ ns j ad,j<=X.L.length->i<j->Sk X az r k j kind text n m at_ (l++ns) ad->Out X r az R (q ns j)->K' (.aQ []) ad):ae K 106 [.box r 0,.box k 0,.func (.func ir) [.box r 0] []] U (aj K' (aa R)):=by
 refine CU ?_;unfold FI;rw[DJ he (c:=[])];have e:(gl X.L one fu i).bind q=(one i).bind λ a j=>(j6 X.L one fu a j).bind q:=by
  unfold gl; cases one i<;>rfl
 rw[e]at O;simp only[AA];refine fK S (C i S.hi) (hg i S.hi) O λ ns j bF hj dV S1 O1=>?_;refine⟨λ mm v0 v1 v2 ad=>∃ acc j f',mm=X.L.length-j/\v0=.box r 0/\v1=.box k 0/\v2=.func (.func ir) [.box r 0] []/\j<=X.L.length/\i<j/\X.L.length-j<f'/\Sk X az r k j kind text n m at_ (l++acc) ad/\Out X r az R ((j6 X.L one f' acc j).bind q),
  ⟨_,ns,j,fu,rfl,rfl,rfl,rfl,hj,dV,by omega,S1,O1⟩,?_⟩
 rintro mm v0 v1 v2 bI ⟨acc,j2,f',rfl,rfl,rfl,rfl,o7,uz,VI,S2,O2⟩;cases f' with
 | zero=>omega
 | succ f' =>
   unfold j6 at O2;refine oU S2 (λ hw cj S3=>?_) (λ hw cj S3=>?_)
   . simp only[a8];rw[if_pos hw]at O2;have aL:=bp hw;rw[DJ he (c:=[])];have e2:((one (j2+1)).bind λ b j=>j6 X.L one f' (acc++b) j).bind q=(one (j2+1)).bind λ b j=>(j6 X.L one f' (acc++b) j).bind q:=by
      cases one (j2+1)<;>rfl
     rw[e2]at O2;refine fK S3 (C _ aL) (hg _ aL) O2 λ WN j3 cm VP aaG S4 O4=>?_;refine⟨_,?_,acc++WN,j3,f',rfl,rfl,rfl,rfl,VP,by omega,by omega,by rw[<- nu]; exact S4,O4⟩;omega
   . simp only[aW];rw[if_neg (by rw[hw]; simp)]at O2;exact aq.mk (h acc j2 cj o7 uz S3 O2)
end
end Go.Rip
