/- Lemmas for the proof: no conditions. -/
import Derived.Test.YtnfpmiiopiinbaaGreatDoorRipZz
import Derived.Test.YtnfpmiiopiinbaaGreatDoorRipM
import Derived.Test.YtnfpmiiopiinbaaGreatDoorRipF
import Derived.Test.YtnfpmiiopiinbaaGreatDoorRipG
import Derived.Test.YtnfpmiiopiinbaaGreatDoorRipH
import Derived.Test.YtnfpmiiopiinbaaGreatDoorRipE
set_option linter.unusedVariables false
set_option linter.unusedSimpArgs false
set_option linter.loopingSimpArgs false
namespace Go.Rip
open Go.RowKit
structure Rx where
 L:List Tk
 E:Nat
 tv:AV
 tr:eW tv L.length (gO L)
 ok:∀ t∈L,kB t
 small:L.length<=900
def rd (X:Rx) (i:Nat):List AV:=[X.tv,.int .i64 i,.int .i64 X.E,Bq,tu]
def NO (X:Rx) (i:Nat):AV:=.iface 136 (.agg [.int .i64 (dv X.L X.E i)])
theorem eW.len {v:AV} {n:Nat} {cs:List AV} (h:eW v n cs):cr (some false) v=.val (.int .i64 n):=by
 rcases h with ⟨rfl,rfl,rfl⟩|⟨c,rfl⟩<;>rfl
theorem eW.at {v:AV} {n:Nat} {cs:List AV} (h:eW v n cs) {sz e j:Nat} (hj:j<n):∃ c,v=.vec n c cs/\aE (some (e,sz)) none v (.int .i64 (j:Int))=.cond (0<=(j:Int)/\(j:Int)<n) (.val (.da (cs.drop (j*sz)))):=by
 rcases h with ⟨rfl,rfl,rfl⟩|⟨c,rfl⟩
 . omega
 . exact⟨c,rfl,by simp⟩
theorem CN:∀ i,closed (K.AM i)=true:=λ i=>by
 show closed (if i=0 then .da xL else if i=7 then .da ym else .any)=true
 split
 . kernel_rfl
 . split
   . kernel_rfl
   . rfl
theorem Pure.of {f:Nat} {args:List AV} {x:AV} (hargs:cD args=true) (hx:closed x=true) (hr:∀ U,resolve 5 U x=x)
 (h:∀ R:cV->St->Prop,(∀ ad,R (.ret x) ad)->ae K f args (bU ⟨.e,0⟩) R):Pure K f args x :=
 Pure.Cn CN hargs hx 5 (h _ λ ad=>⟨x,rfl,hr ad⟩)
def idx (l:List aG) (s:aG):Int:=match l.findIdx? (·=s) with|some i=>i|none=>-1
theorem Qa (c:mr) (l:List aG) (s:aG) (hn:l.length<=100000):Pure K 230 [.vec l.length c (l.map .str),.str s] (.int .i64 (idx l s)):=by
 intro U R hR;refine VC ?_;simp only[VB,vj,al];refine⟨λ m v0 v1 v7 v8 ad=>∃ i:Nat,m=l.length-i/\i<=l.length/\v0=.vec l.length c (l.map .str)/\v1=.str s/\v7=.int .i64 l.length/\v8=.int .i64 i/\ad=U/\∀ j,j<i->l[j]?≠some s,⟨l.length,0,by simp[Fn.app]⟩,?_⟩;intro m v0 v1 v7 v8 ad hI;obtain⟨i,rfl,hi,rfl,rfl,rfl,rfl,rfl,kf⟩:=hI;simp only[bV,al,cq];refine⟨λ aN=>?_,λ kV=>?_⟩
 . have aN:i<l.length:=by omega
   have hd:(l.map AV.str).drop (i*1)=.str l[i]::(l.map AV.str).drop (i+1):=by
    rw[Nat.mul_one,gM (by simpa using aN)]; simp
   simp only[Ag,wp_cond,al,fW,hd,wK,dT,gZ,cq];refine⟨by omega,λ he=>?_,λ ca=>?_⟩
   . refine aq.eq hR ?_;have:l.findIdx? (·=s)=some i:=by
      rw[LF];refine⟨aN,by simp[he],λ j hj=>?_⟩;have:=kf j hj;rw[qM (by omega)]at this;simpa using this
     simp[idx,this]
   . simp only[nF,iv,wp_cond,al];refine⟨bI (by omega) (by omega),?_⟩;refine⟨l.length-(i+1),by omega,i+1,rfl,by omega,rfl,rfl,rfl,by simp,rfl,λ j hj=>?_⟩
     . rcases kI j i with h|h
       . exact kf j h
       . have:j=i:=by omega
         subst this;rw[qM aN]; simpa using λ h=>ca h.symm
 . refine aq.eq hR ?_;have:l.findIdx? (·=s)=none:=by
    rw[List.findIdx?_eq_none_iff];intro x hx;obtain⟨j,hj,rfl⟩:=List.getElem_of_mem hx;have:=kf j (by omega);rw[qM hj]at this;simpa using this
   simp[idx,this]
section
variable {X:Rx} {r i:Nat} {U:St} {R:cV->St->Prop}
theorem Ly (hr:U.box r=some (rd X i)) (h:R (.ret (.int .i64 (dv X.L X.E i))) U):ae K 164 [.box r 0] U R:=by
 refine U3 ?_;simp only[U2,bW,aJ,bh,ld hr,rd,List.drop,dT,X.tr.len,bV,cq,al,db];refine⟨λ aN=>?_,λ kV=>?_⟩
 . have aN:i<X.L.length:=by omega
   obtain⟨c,hv,uO⟩:=X.tr.at (sz:=3) (e:=51) aN;obtain⟨t,ht⟩:∃ t,X.L[i]?=some t:=⟨X.L[i],by simp[aN]⟩;obtain⟨rest,hd⟩:=GO ht;simp only[uO,jN,aJ,hd,dC,wK,jM,dK,eH,List.drop,dT];refine⟨by omega,aq.mk ?_⟩;have:dv X.L X.E i=t.at_:=by simp[dv,ht]
   rw[<- this]; exact h
 . refine aq.mk ?_;have:dv X.L X.E i=X.E:=by simp[dv,vT (show X.L.length<=i by omega)]
   rw[<- this]; exact h
def tc:Option Tk->List AV
 | some t=>jM t
 | none=>[.int .u8 0,.str [],.int .i64 0]
theorem rN (hr:U.box r=some (rd X i)) (hi:i<=X.L.length) (k:Nat) (hk:k<=10) (h:∀ ad,cX U ad->R (.ret (.agg (tc X.L[i+k]?))) ad):ae K 167 [.box r 0,.int .i64 k] U R:=by
 refine U7 ?_;have hs:=X.small;simp only[U6,lR];intro b hb;have N8:=hb.bO hr;have EJ:(U.new b (.box [AV.int .u8 0,AV.str [],AV.int .i64 0])).box r=some (rd X i):=by rw[oU N8]; exact hr
 have iN:(U.new b (.box [AV.int .u8 0,AV.str [],AV.int .i64 0])).box b=some [AV.int .u8 0,AV.str [],AV.int .i64 0]:=aD;simp only[NV.at,bW,aJ,bh,ld EJ,rd,List.drop,dT,X.tr.len,nF,iv,jN,bV,cq,al,db];refine⟨bI (by omega) (by omega),λ aN=>?_,λ kV=>?_⟩
 . have aN:i+k<X.L.length:=by omega
   obtain⟨c,hv,uO⟩:=X.tr.at (sz:=3) (e:=51) aN;obtain⟨t,ht⟩:∃ t,X.L[i+k]?=some t:=⟨X.L[i+k],by simp[aN]⟩;obtain⟨rest,hd⟩:=GO ht;rw[<- Int.natCast_add];simp only[uO,jN,aJ,hd,Qu,BL iN,wp_cond,nD];refine⟨bI (by omega) (by omega),by omega,by simp[jM],by simp[jM],?_⟩;rw[xp (S8 (aT) 3 0)];refine⟨by simp[ay,jM],?_⟩;refine aq.eq (h _ (((cX.refl U).new hb).set hb.1)) ?_;simp[ay,jM,ht,tc]
 . simp only[ek,ib,al,BL iN,wp_cond,nD];refine⟨by simp,?_⟩;rw[xp (S8 (aT) 3 0)];refine⟨by simp[ay],?_⟩;refine aq.eq (h _ (((cX.refl U).new hb).set hb.1)) ?_;simp[ay,vT (show X.L.length<=i+k by omega),tc]
def xu (o:Option Tk) (l:List aG):Bool:=match o with
 | some t=>(t.k==3||t.k==4)&&decide (t.s∈l)
 | none=>false
theorem P9 (l:List aG) (s:aG):decide (0<=idx l s)=decide (s∈l):=by
 unfold idx;split
 . rename_i j hj;obtain⟨h1,h2,_⟩:=LF.1 hj;have:s∈l:=by have:=of_decide_eq_true h2; exact this▸List.getElem_mem h1
   simp[this]
 . rename_i hj;rw[List.findIdx?_eq_none_iff]at hj;have:s∉l:=λ hm=>by simpa using hj s hm
   simp[this]
theorem IT (c:mr) (l:List aG) (s:aG) (hn:l.length<=100000):Pure K 178 [.vec l.length c (l.map .str),.str s] (.bool (decide (s∈l))):=by
 intro U R hR;refine Vb ?_;refine (Qa c l s hn).go ?_;simp only[jc,al];refine aq.eq hR ?_;rw[P9]
theorem DB {c:mr} (o:Option Tk) (l:List aG) (hn:l.length<=100000) (h:∀ ad,cX U ad->R (.ret (.bool (xu o l))) ad):ae K 121 [.agg (tc o),.vec l.length c (l.map .str)] U R:=by
 refine Um ?_;have hl:∃ k s a,tc o=[.int .u8 k,.str s,.int .i64 a]/\xu o l=((decide (k=3)||decide (k=4))&&decide (s∈l)):=by
  cases o with
  | none=>exact⟨0,[],0,rfl,rfl⟩
  | some t=>exact⟨t.k,t.s,t.at_,rfl,by
     have e:∀ m:Nat,(t.k==m)=decide ((t.k:Int)=(m:Int)):=λ m=>by
      rw[qO]; simp; omega
     simp only[xu,e 3,e 4]; rfl⟩
 obtain⟨k,s,a,e1,e2⟩:=hl;rw[e1];simp only[Ul,Ha _ (XJ _),wp_cond,true_and,Hc,lR];intro b_ hb;have iN:(U.new b_ (.box [.int .u8 k,.str s,.int .i64 a])).box b_=some [.int .u8 k,.str s,.int .i64 a]:=aD;have hx:=h _ ((cX.refl U).new (x:=.box [.int .u8 k,.str s,.int .i64 a]) hb);rw[e2]at hx;simp only[NV.at,bh,al,ld iN,List.drop,dT,bA,bo,aP,sM,db];have Sy:=IT c l s hn;have step:∀ b:Bool,((decide (k=3)||decide (k=4))&&decide (s∈l))=b->aq R (.bool b) (U.new b_ (.box [.int .u8 k,.str s,.int .i64 a])):=λ b e=>by subst e; exact aq.mk hx
 by_cases h3:k=3
 . subst h3;simp[ld iN];exact⟨_,Sy,step _ (by simp)⟩
 . by_cases h4:k=4
   . subst h4;simp[ld iN];exact⟨_,Sy,step _ (by simp)⟩
   . simp[ld iN,h3,h4];exact step _ (by simp[h3,h4])
theorem MK (s w:aG):decide (s∈[w])=(s==w):=by
 by_cases h:s=w
 . simp[h]
 . simp[h]
theorem Cp (L:List Tk) (i:Nat) (w:aG):xu L[i]? [w]=bm L i w:=by
 unfold xu bm;split
 . rename_i t ht; rw[ht,MK]
 . rename_i ht; rw[ht]
theorem Qg {c:mr} (hr:U.box r=some (rd X i)) (hi:i<=X.L.length) (l:List aG) (hn:l.length<=100000) (h:∀ ad,cX U ad->R (.ret (.bool (xu X.L[i]? l))) ad):ae K 105 [.box r 0,.vec l.length c (l.map .str)] U R:=by
 refine Uc ?_;refine rN hr hi 0 (by omega) λ aS e1=>?_;refine DB (X.L[i]?) l hn λ bf e2=>?_;exact aq.mk (h _ (e1.trans e2))
theorem Lg (hr:U.box r=some (rd X i)) (hi:i<=X.L.length) (w:aG)
 (h1:bm X.L i w=true->∀ ad,iD r (rd X (i+1)) U ad->R (.ret (.bool true)) ad) (h2:bm X.L i w=false->∀ ad,cX U ad->R (.ret (.bool false)) ad):ae K 100 [.box r 0,.str w] U R:=by
 refine TX ?_;have hs:=X.small;simp only[TW,au,ib,He,XL,bT,wp_cond,al,ay,List.take,List.drop,eH,dK,gx];refine⟨by omega,by simp,by simp,?_⟩;refine Qg (l:=[w]) hr hi (by simp) λ aS e1=>?_;have EJ:=e1.aY hr;simp only[bE,eT,al,Cp];cases hw:bm X.L i w with
 | false=>simp only[fx,bH]; exact aq.mk (h2 hw _ e1)
 | true =>
   simp only[dm,bq,bW,al,bh,ld EJ,rd,List.drop,dT,db,nF,iv,wp_cond,BL EJ,nD];refine⟨bI (by omega) (by omega),by simp,aq.mk (h1 hw _ ⟨?_,(e1.J5 (r:=r)).set (.inr rfl)⟩)⟩;rw[aT]; simp[ay,rd]
theorem NN (hr:U.box r=some (rd X i)) (h:R (.panic (NO X i)) U):ae K 166 [.box r 0] U R:=by
 refine U5 ?_;refine Ly hr ?_;simp only[bE,ek,ib,RO,XK,wp_cond,al,ay,zj,if_true,vP,Zb];refine⟨by simp,?_⟩;exact h
theorem Gv (hr:U.box r=some (rd X i)) (hi:i<=X.L.length) (w:aG)
 (h1:bM X.L w i=.ok () (i+1)->i+1<=X.L.length->∀ ad,iD r (rd X (i+1)) U ad->R (.ret (.aK [])) ad) (h2:bM X.L w i=.bad i->∀ ad,iD r (rd X i) U ad->R (.panic (NO X i)) ad):ae K 102 [.box r 0,.str w] U R:=by
 refine TZ ?_;refine Lg hr hi w (λ hw aS a1=>?_) (λ hw aS e1=>?_)
 . simp only[bE,eT,al,dm,bq];exact aq.mk (h1 (by simp[bM,hw]) (dI hw) _ a1)
 . simp only[bE,eT,al,fx,bH];exact NN (e1.aY hr) (h2 (by simp[bM,hw]) _ (.nS hr e1))
theorem wX (o:Option Tk):∃ k:Int,∃ s a,tc o=[.int .u8 k,.str s,.int .i64 a]/\(∀ m:Nat,0<m->(k=(m:Int)↔∃ t,o=some t/\t.k=m/\t.s=s)):=by
 cases o with
 | none=>exact⟨0,[],0,rfl,λ m hm=>⟨λ h=>by omega,λ ⟨t,h,_⟩=>by cases h⟩⟩
 | some t=>exact⟨t.k,t.s,t.at_,rfl,λ m hm=>⟨λ h=>⟨t,rfl,by omega,rfl⟩,λ ⟨u,h,h2,h3⟩=>by cases h; omega⟩⟩
theorem Tu (hr:U.box r=some (rd X i)) (hi:i<=X.L.length) (k:Nat) (hk:0<k)
 (h1:∀ t,X.L[i]?=some t->t.k=k->i+1<=X.L.length->∀ ad,iD r (rd X (i+1)) U ad->R (.ret (.str t.s)) ad) (h2:(∀ t,X.L[i]?=some t->t.k≠k)->∀ ad,iD r (rd X i) U ad->R (.panic (NO X i)) ad):ae K 165 [.box r 0,.int .u8 k] U R:=by
 refine U4 ?_;have hs:=X.small;refine rN hr hi 0 (by omega) λ aS e1=>?_;have EJ:=e1.aY hr;obtain⟨m,s,a,e,hm⟩:=wX X.L[i+0]?;rw[e];simp only[bE,lR];intro b hb;have N8:=hb.bO EJ;have e2:=e1.new (x:=.box [AV.int .u8 0,AV.str [],AV.int .i64 0]) hb;have iN:(aS.new b (.box [AV.int .u8 0,AV.str [],AV.int .i64 0])).box b=some [AV.int .u8 0,AV.str [],AV.int .i64 0]:=aD;simp only[NV.at,BL iN,wp_cond,nD];refine⟨by simp,?_⟩;have e3:=e2.set (x:=.box (ay [AV.int .u8 0,AV.str [],AV.int .i64 0] 0 (av (.agg [.int .u8 m,.str s,.int .i64 a])))) (e1.fresh hb.1);generalize qY:(aS.new b (.box [AV.int .u8 0,AV.str [],AV.int .i64 0])).set b (.box (ay [AV.int .u8 0,AV.str [],AV.int .i64 0] 0 (av (.agg [.int .u8 m,.str s,.int .i64 a]))))=bR at e3 ⊢;have lu:bR.box b=some [.int .u8 m,.str s,.int .i64 a]:=by rw[<- qY,aT]; rfl
 have Ad:=e3.aY hr;intro j hj;simp only[bh,al,ld lu,List.drop,dT,db,c8,ax,Bool.not_eq_true',decide_eq_false_iff_not,Bool.not_eq_false',eg];refine⟨λ ca=>?_,λ heq=>?_⟩
 . refine NN Ad ?_;exact h2 (λ t ht he=>ca ((hm k hk).2 ⟨t,ht,he,by rw[Nat.add_zero,ht]at e; cases e; rfl⟩)) _ (.nS hr e3)
 . obtain⟨t,ht,rX,A6⟩:=(hm k hk).1 heq;have aN:=(dp.1 ht).1;refine hj _ _ _ ?_;simp only[bW,al,bh,ld Ad,rd,List.drop,dT,db,nF,iv,wp_cond,BL Ad,nD];refine⟨bI (by omega) (by omega),by simp,?_⟩;rw[nD];generalize KT:bR.set r _=cP;have gk:cP.box b=some [.int .u8 m,.str s,.int .i64 a]:=by rw[<- KT,aO (Ne.symm N8)]; exact lu
   have hr4:cP.box r=some (rd X (i+1)):=by rw[<- KT,aT]; simp[ay,rd]
   have e4:l8 r U cP:=by rw[<- KT]; exact (e3.J5 (r:=r)).set (.inr rfl)
   simp only[ld gk,List.drop,dT,al];refine aq.mk ?_;rw[<- A6];exact h1 t ht rX aN _ ⟨hr4,e4⟩
theorem abJ (hr:U.box r=some (rd X i)) (hi:i<=X.L.length)
 (h1:∀ x,gX X.L i=.ok x (i+1)->i+1<=X.L.length->∀ ad,iD r (rd X (i+1)) U ad->R (.ret (.str x)) ad) (h2:gX X.L i=.bad i->∀ ad,iD r (rd X i) U ad->R (.panic (NO X i)) ad):ae K 101 [.box r 0] U R:=by
 refine TY ?_;refine Tu hr hi 1 (by omega) (λ t ht hk hl aS a1=>?_) (λ hn aS a1=>?_)
 . exact aq.mk (h1 t.s (by simp[gX,ht,hk]) hl _ a1)
 . refine h2 ?_ _ a1;unfold gX;split
   . rename_i t ht; rw[if_neg (hn t ht)]
   . rfl
end
end Go.Rip
namespace Go.Rip
open Go.Proofs Go.RowKit
theorem Pure.Ts {f:FuncId} {args:List AV} {vs:List Value} {x:AV} {v:Value} (hargs:∀ g us,aH g args us->us=vs) (hx:∀ g,aA g x v)
 (h:∀ w,Calls K.P f vs.toArray w λ e w'=>e=.returned v/\w.grownBy w' none):Pure K f args x:=by
 intro U R hR g w us hs hG ha;have:=hargs g us ha;subst this;refine callsIn_wide.2 ((h w).mono λ e w' ⟨h1,h2⟩=>?_);subst h1;exact⟨g,U,x,Gh.Le.refl g,hs.grow h2,hx g,hR⟩
theorem MH (w:World) (e:TypeId) (s:ByteArray):w.grownBy (Lib.bytesWorld w e s) none:=by
 have ca:∀ q,q<w.heap.size->w.heap.size≠q:=λ q h=>by omega
 unfold Lib.bytesWorld World.freeze;split
 . exact⟨rfl,rfl,rfl,by simp[World.alloc,World.drew,-World.alloc_eq,-World.drew_eq],λ q hq _=>by simp[World.alloc,World.drew,-World.alloc_eq,-World.drew_eq,Array.getElem?_push,Nat.ne_of_lt hq]⟩
 . refine⟨rfl,rfl,rfl,by simp[World.alloc,World.drew,-World.alloc_eq,-World.drew_eq],λ q hq _=>?_⟩;simp[World.alloc,World.drew,-World.alloc_eq,-World.drew_eq,Array.getElem?_modify,Array.getElem?_push,ca q hq,Nat.ne_of_lt hq]
theorem Rr (s:aG) (h0:s≠[]) (h:pI s=0):Pure K 218 [.str s] (.aK [.int .i64 (tn s),.dE]):=by
 obtain⟨h1,h2,_⟩:=wQ h0 h;refine Pure.Ts (vs:=[.string ⟨s.toArray⟩]) (v:=.tuple #[.int .i64 (tn s),.nilIface]) (λ g us hr=>X7 hr) (λ g=>by simp[aA,aH]) λ w=>?_;refine (Tryz.strconv_Atoi ⟨s.toArray⟩ (tn s) (by show s.toArray.size<=18; simp; omega) (WB h0 (Cm h).1) w).mono λ e w' ⟨he,t,hw⟩=>⟨he,?_⟩;subst hw;exact MH _ _ _
section
variable {X:Rx} {r i:Nat} {U:St} {R:cV->St->Prop}
theorem Tq (hr:U.box r=some (rd X i)) (hi:i<=X.L.length)
 (h1:∀ x,jo X.L i=.ok x (i+1)->i+1<=X.L.length->∀ ad,iD r (rd X (i+1)) U ad->R (.ret (.int .i64 x)) ad) (h2:jo X.L i=.bad i->∀ ad,iD r (rd X i) U ad->R (.panic (NO X i)) ad):ae K 168 [.box r 0] U R:=by
 refine U8 ?_;refine Tu hr hi 2 (by omega) (λ t ht hk hl aS a1=>?_) (λ hn aS a1=>?_)
 . have cS:=X.ok t (gw ht);refine (Rr t.s cS.1 (Gz cS hk)).go ?_;simp only[bp,List.drop,dT,al,aw,if_true];intro j hj;simp only[and_self,if_true,al,bq];exact hj _ _ (aq.mk (h1 _ (by simp[jo,ht,hk]) hl _ a1))
 . refine h2 ?_ _ a1;unfold jo;split
   . rename_i t ht; rw[if_neg (hn t ht)]
   . rfl
def nr (kind:Int) (text:aG) (n m at_:Int) (kv:AV):List AV:=[.int .u8 kind,.str text,.int .i64 n,.int .i64 m,.int .i64 at_,.int .i64 0,kv]
def Grow (U:St) (v:AV) (e:TypeId) (sz n:Nat) (l:List AV):Prop:=(n=0/\l=[]/\v=.ag)\/∃ τ,v=.vec n (.own τ) l/\U.tok τ=some ⟨n,e,sz⟩/\l.length=n*sz
def acz (ar:St) (v:AV):Prop:=∀ n τ l,v=.vec n (.own τ) l->ar.live τ=none
theorem FM {e sz n m:Nat} {v y:AV} {l l2:List AV} {K':AV->St->Prop} {Kp:AV->St->Prop} (hg:Grow U v e sz n l) (hy:pa U y=some (m,l2)) (hl:l2.length=m*sz) (hm:0<m) (hb:n+m<=4294967296) (h0:n=0->v=.ag)
 (h:∀ ad v',Grow ad v' e sz (n+m) (l++l2)->(∀ b x,(∀ n l,v≠.vec n (.own b) l)->U.live b=some x->ad.live b=some x)->(∀ n τ l,v'=.vec n (.own τ) l->U.live τ=none\/∃ n l,v=.vec n (.own τ) l)->K' v' ad):(dB (some (e,sz)) false v y U).wp K U K' Kp:=by
 rcases hg with ⟨rfl,rfl,rfl⟩|⟨τ,rfl,ht,Hu⟩
 . have SC:m≠0:=by omega
   simp only[dB,hy,if_neg SC,bZ,if_false,wp_cond];refine⟨hl,by omega,λ b eY=>?_⟩;refine h _ _ (.inr ⟨b,by simp[NV.at],by rw[db]; exact FE,by simp[hl]⟩) (λ c x hc hx=>(bg eY) c x hx) λ n τ l hv=>?_;simp only[NV.at,AV.vec.injEq,mr.own.injEq]at hv;exact .inl (hv.2.1▸eY.1)
 . have EG:n≠0:=λ e=>by have:=h0 e; cases this
   simp only[dB,hy,wp_cond];refine⟨hl,⟨ht,Hu,hb⟩,λ b eY=>?_⟩;refine h _ _ (.inr ⟨b,rfl,FE,by simp[hl,Hu,Nat.add_mul]⟩) (λ c x hc hx=>?_) λ n' xd l' hv=>?_
   . refine (bg eY) c x ?_;have ca:c≠τ:=λ e=>hc n l (by rw[e]);show (U.del τ).live c=some x;rw[jX,if_neg ca]; exact hx
   . simp only[NV.at,AV.vec.injEq,mr.own.injEq]at hv;have hf:=eY.1;rw[<- hv.2.1]
     by_cases e:b=τ
     . subst e; exact .inr ⟨_,_,rfl⟩
     . left;have:(U.del τ).live b=none:=hf;rw[jX,if_neg e]at this; exact this
structure Mk (ar U:St) (r k:Nat) (kind:Int) (text:aG) (n m at_:Int) (ks:List AV):Prop where
 box:∃ kv,U.box k=some (nr kind text n m at_ kv)/\Grow U kv 87 1 ks.length ks/\acz ar kv/\(ks=[]->kv=.ag)
 new:ar.live k=none
 ne:k≠r
inductive eV:Bool->List AV->List Nd->Prop
 | mk {kind:Int} {text:aG} {n m at_:Int} {kv:AV} {ks:List AV} {l:List Nd}:eV true ks l->(ks=[]/\kv=.ag\/∃ c,kv=.vec ks.length c ks)->eV false [.da (nr kind text n m at_ kv)] (node kind text n m at_ l)
 | nil:eV true [] []
 | cons {a:AV} {ks:List AV} {l l':List Nd}:eV false [a] l->eV true ks l'->eV true (a::ks) (l++l')
theorem eV.snoc {ks:List AV} {l:List Nd} {a:AV} {l':List Nd} (h:eV true ks l) (k:eV false [a] l'):eV true (ks++[a]) (l++l'):=by
 generalize hb:true=b at h
 induction h with
 | mk _ _ _=>cases hb
 | nil=>simpa using eV.cons k eV.nil
 | cons h1 h2 _ ih=>rw[dc]; exact .cons h1 (ih rfl)
theorem eV.one {a:AV} {l:List Nd} (k:eV false [a] l):eV true [a] l:=by simpa using eV.cons k eV.nil
section
variable {X:Rx} {r i j k:Nat} {ar U ad:St} {R:cV->St->Prop} {kind:Int} {text:aG} {n m at_:Int} {ks:List AV}
theorem Mk.jR {l:List AV} (M:Mk ar U r k kind text n m at_ ks) (a:iD r l U ad) {l':List AV} (hr:U.box r=some l'):Mk ar ad r k kind text n m at_ ks:=by
 obtain⟨kv,h1,h2,h3,h4⟩:=M.box;refine⟨⟨kv,a.ex.aY M.ne h1,?_,h3,h4⟩,M.new,M.ne⟩;rcases h2 with h2|⟨τ,e,ht,hl⟩
 . exact .inl h2
 . exact .inr ⟨τ,e,a.ex.tok (fB hr ht).symm ht,hl⟩
theorem Mk.BL (M:Mk ar U r k kind text n m at_ ks) {o w:Nat} {v:AV} {Z4:Int} {aaI:aG} {n' m' adY:Int} {K':AV->St->Prop} {Kp:AV->St->Prop} {t:Bool}
 (hs:∀ kv,v.dw=true/\(av v).length=w/\o+w<=(nr kind text n m at_ kv).length/\ay (nr kind text n m at_ kv) o (av v)=nr Z4 aaI n' m' adY kv)
 {L:List AV} (A:iD r L ar U)
 (h:∀ ad,Mk ar ad r k Z4 aaI n' m' adY ks->iD r L ar ad->K' (.aK []) ad):(aI (some (t,w)) (.box k o) v U).wp K U K' Kp:=by
 obtain⟨kv,h1,h2,h3,h4⟩:=M.box;obtain⟨s1,s2,s3,s4⟩:=hs kv;rw[cI h1,s4];refine⟨⟨s1,s2,s3⟩,h _ ⟨⟨kv,aT,?_,h3,h4⟩,M.new,M.ne⟩ ⟨by rw[aO M.ne.symm]; exact A.box,A.ex.set (.inl M.new)⟩⟩;rcases h2 with h2|⟨τ,e,ht,hl⟩
 . exact .inl h2
 . exact .inr ⟨τ,e,by rw[iL (fB h1 ht).symm]; exact ht,hl⟩
theorem abZ (hr:U.box r=some (rd X i)) (kind:Int) (h:∀ k ad,Mk U ad r k kind [] 0 0 (dv X.L X.E i) []->iD r (rd X i) U ad->R (.ret (.box k 0)) ad):ae K 99 [.box r 0,.int .u8 kind] U R:=by
 refine YB ?_;refine Ly hr ?_;refine pK [.int .u8 kind,.str [],.int .i64 0,.int .i64 0,.int .i64 (dv X.L X.E i),.int .i64 0] rfl ?_;refine pK (nr kind [] 0 0 (dv X.L X.E i) .ag) rfl ?_;rw[gd rfl];intro b hb;exact aq.mk (h b _ ⟨⟨_,aD,.inl ⟨rfl,rfl,rfl⟩,(λ _ _ _ e=>by cases e),λ _=>rfl⟩,hb.1,(hb.bO hr).symm⟩ (.nS hr ((cX.refl U).new hb)))
theorem Pe {L:List AV} {mm:Nat} {c:mr} {l2:List AV} (M:Mk ar U r k kind text n m at_ ks) (A:iD r L ar U) (hm:0<mm) (hl:l2.length=mm) (hb:ks.length+mm<=4294967296)
 (h:∀ ad,Mk ar ad r k kind text n m at_ (ks++l2)->iD r L ar ad->aq R (.box k 0) ad):ae K 103 [.box k 0,.vec mm c l2] U R:=by
 refine T9 ?_;obtain⟨kv,h1,h2,h3,h4⟩:=M.box;simp only[T4,bW,al,bh,il h1,nr,List.drop,bC,db];refine FM h2 rfl (by simp[hl]) hm hb (λ e=>h4 (rL.1 e)) λ aS v' g1 e1 n1=>?_;have k1:aS.box k=some (nr kind text n m at_ kv):=by
  cases e:U.live k with
  | none=>exact absurd e (ct h1)
  | some x =>
    have:=e1 k x (λ n' l' hv=>by
     rcases h2 with ⟨_,_,h2⟩|⟨τ,h2,ht,_⟩
     . rw[h2]at hv; cases hv
     . rw[h2]at hv; cases hv; exact fB h1 ht rfl) e
    rw[dS (this.trans e.symm)]; exact h1
 have A1:iD r L ar aS:=by
  have key:∀ b x,ar.live b=some x->U.live b=some x->aS.live b=some x:=λ b x hx hy=>e1 b x (λ n' l' hv=>by rw[h3 _ _ _ hv]at hx; cases hx) hy;refine⟨?_,λ b x hbr hx=>key b x hx (A.ex b x hbr hx)⟩;cases e:U.live r with
  | none=>exact absurd e (ct A.box)
  | some x =>
    have:=e1 r x (λ n' l' hv=>by
     rcases h2 with ⟨_,_,h2⟩|⟨τ,h2,ht,_⟩
     . rw[h2]at hv; cases hv
     . rw[h2]at hv; cases hv; exact fB A.box ht rfl) e
    rw[dS (this.trans e.symm)]; exact A.box
 rw[cI k1];have ca:v'≠.ag:=by
  rcases g1 with ⟨h0,_,_⟩|⟨τ,e,_⟩
  . omega
  . rw[e]; simp
 have dw:v'.dw=true/\av v'=[v']:=by
  rcases g1 with ⟨h0,_,_⟩|⟨τ,e,_⟩
  . omega
  . rw[e]; exact⟨rfl,rfl⟩
 refine⟨⟨dw.1,by rw[dw.2]; rfl,by simp[nr]⟩,(h _ ⟨⟨v',?_,?_,λ n' xd l' hv=>?_,λ e=>?_⟩,M.new,M.ne⟩ ⟨by rw[aO M.ne.symm]; exact A1.box,A1.ex.set (.inl M.new)⟩)⟩
 . rw[aT,dw.2]; rfl
 . rw[cO,hl];rcases g1 with h0|⟨τ,e,ht,hl⟩
   . exact .inl h0
   . exact .inr ⟨τ,e,by rw[iL (fB k1 ht).symm]; exact ht,hl⟩
 . rcases n1 n' xd l' hv with hx|⟨n2,l2',hx⟩
   . cases e:ar.live xd with
     | none=>rfl
     | some x =>
       by_cases hrt:xd=r
       . subst hrt; exact absurd hx (ct A.box)
       . have:=A.ex xd x hrt e; rw[hx]at this; cases this
   . exact h3 _ _ _ hx
 . have:l2=[]:=(List.append_eq_nil_iff.1 e).2;subst this; simp at hl; omega
theorem acA {L:List AV} {mm:Nat} {c:mr} {l2:List AV} (M:Mk ar U r k kind text n m at_ ks) (A:iD r L ar U) (hm:0<mm) (hl:l2.length=mm) (hb:ks.length+mm<=4294967296)
 (h:∀ ad,Mk ar ad r k kind text n m at_ (ks++l2)->iD r L ar ad->R (.ret (.box k 0)) ad):ae K 103 [.box k 0,.vec mm c l2] U R:=Pe M A hm hl hb λ ad M A=>aq.mk (h ad M A)
theorem Mk.done {l:List AV} {ns:List Nd} (M:Mk ar U r k kind text n m at_ ks) (hk:eV true ks ns) (A:iD r l ar U) (h:∀ a ad,eV false [a] (node kind text n m at_ ns)->iD r l ar ad->R (.ret a) ad):aq R (.box k 0) U:=by
 obtain⟨kv,h1,h2,h3,h4⟩:=M.box;refine⟨_,_,pD.freeze h1,h _ _ (.mk hk ?_) ⟨by rw[jl M.ne.symm]; exact A.box,A.ex.del (.inl M.new)⟩⟩;rcases h2 with ⟨e1,e2,e3⟩|⟨τ,e,_,_⟩
 . exact .inl ⟨e2,e3⟩
 . exact .inr ⟨_,e⟩
end
end
end Go.Rip
namespace Go.Rip
open Go.Proofs Go.RowKit
structure Out (X:Rx) (r:Nat) (ar:St) (R:cV->St->Prop) (p:PR (List Nd)):Prop where
 ok:∀ ns j,p=.ok ns j->j<=X.L.length->∀ a ad,eV false [a] ns->iD r (rd X j) ar ad->R (.ret a) ad
 bad:∀ j,p=.bad j->∀ ad,iD r (rd X j) ar ad->R (.panic (NO X j)) ad
def Ct (X:Rx) (f:FuncId) (i:Nat) (p:PR (List Nd)):Prop:=∀ (r:Nat) (U:St) (R:cV->St->Prop),U.box r=some (rd X i)->Out X r U R p->ae K f [.box r 0] U R
structure Sk (X:Rx) (ar:St) (r k i:Nat) (kind:Int) (text:aG) (n m at_:Int) (l:List Nd) (U:St):Prop where
 A:iD r (rd X i) ar U
 hi:i<=X.L.length
 M:∃ ks,Mk ar U r k kind text n m at_ ks/\eV true ks l/\ks.length<=i
section
variable {X:Rx} {ar U:St} {r k i:Nat} {kind:Int} {text:aG} {n m at_:Int} {l:List Nd} {R:cV->St->Prop} {K':AV->St->Prop} {Kp:AV->St->Prop} {w:aG} {f:FuncId}
theorem Sk.jR (S:Sk X ar r k i kind text n m at_ l U) {ad:St} {j:Nat} (A:iD r (rd X j) U ad) (hj:j<=X.L.length) (gq:i<=j):Sk X ar r k j kind text n m at_ l ad:=by
 obtain⟨ks,h1,h2,h3⟩:=S.M;exact⟨S.A.trans A,hj,ks,h1.jR A S.A.box,h2,by omega⟩
theorem Out.jR {ad:St} {p:PR (List Nd)} {L:List AV} (O:Out X r U R p) (A:iD r L U ad):Out X r ad R p :=
 ⟨λ ns j h hj a bf k A2=>O.ok ns j h hj a bf k (A.trans A2),λ j h bf A2=>O.bad j h bf (A.trans A2)⟩
theorem iu (hr:U.box r=some (rd X i)) (hi:i<=X.L.length) {kind:Int} (h:∀ k ad,Sk X U r k i kind [] 0 0 (dv X.L X.E i) [] ad->K' (.box k 0) ad):ae K 99 [.box r 0,.int .u8 kind] U (ah K' Kp) :=
 abZ hr kind λ k ad M A=>h k ad ⟨A,hi,[],M,.nil,by simp⟩
theorem dM {q:Unit->Nat->PR (List Nd)} (S:Sk X ar r k i kind text n m at_ l U) (O:Out X r ar R ((bM X.L w i).bind q)) (h:∀ ad,Sk X ar r k (i+1) kind text n m at_ l ad->Out X r ar R (q () (i+1))->K' (.aK []) ad):ae K 102 [.box r 0,.str w] U (ah K' (aa R)) :=
 Gv S.A.box S.hi w (λ e hl ad A=>h ad (S.jR A hl (by omega)) (by rw[e]at O; exact O)) λ e ad A=>O.bad _ (by rw[e]; rfl) _ (S.A.trans A)
theorem oF {q:aG->Nat->PR (List Nd)} (S:Sk X ar r k i kind text n m at_ l U) (O:Out X r ar R ((gX X.L i).bind q)) (h:∀ x ad,Sk X ar r k (i+1) kind text n m at_ l ad->Out X r ar R (q x (i+1))->K' (.str x) ad):ae K 101 [.box r 0] U (ah K' (aa R)) :=
 abJ S.A.box S.hi (λ x e hl ad A=>h x ad (S.jR A hl (by omega)) (by rw[e]at O; exact O)) λ e ad A=>O.bad _ (by rw[e]; rfl) _ (S.A.trans A)
theorem qj {q:Int->Nat->PR (List Nd)} (S:Sk X ar r k i kind text n m at_ l U) (O:Out X r ar R ((jo X.L i).bind q)) (h:∀ x ad,Sk X ar r k (i+1) kind text n m at_ l ad->Out X r ar R (q x (i+1))->K' (.int .i64 x) ad):ae K 168 [.box r 0] U (ah K' (aa R)) :=
 Tq S.A.box S.hi (λ x e hl ad A=>h x ad (S.jR A hl (by omega)) (by rw[e]at O; exact O)) λ e ad A=>O.bad _ (by rw[e]; rfl) _ (S.A.trans A)
theorem sR (S:Sk X ar r k i kind text n m at_ l U) (h1:bm X.L i w=true->∀ ad,Sk X ar r k (i+1) kind text n m at_ l ad->K' (.bool true) ad) (h2:bm X.L i w=false->∀ ad,Sk X ar r k i kind text n m at_ l ad->K' (.bool false) ad):ae K 100 [.box r 0,.str w] U (ah K' Kp) :=
 Lg S.A.box S.hi w (λ e ad A=>h1 e ad (S.jR A (dI e) (by omega))) λ e ad A=>h2 e ad (S.jR (.nS S.A.box A) S.hi (by omega))
theorem We (S:Sk X ar r k i kind text n m at_ l U) (h:∀ b ad,bm X.L i w=b->Sk X ar r k i kind text n m at_ l ad->K' (.bool b) ad) :
 (au (some (9,1)) (some [AV.str []]) 1 false [(0,.str w)]).wp K U (λ v U=>ae K 105 [.box r 0,v] U (ah K' Kp)) Kp:=by
 rw[hZ];refine⟨by omega,?_⟩;rw[ff (o:=0) (s:=1) rfl];refine⟨⟨rfl,rfl,by simp[bT]⟩,?_⟩;rw[ja];refine⟨rfl,?_⟩;refine Qg (l:=[w]) S.A.box S.hi (by simp) λ aS e1=>?_;exact h _ _ (by rw[Cp]) (S.jR (.nS S.A.box e1) S.hi (by omega))
theorem oG {x:aG} (S:Sk X ar r k i kind text n m at_ l U) (h:∀ ad,Sk X ar r k i kind x n m at_ l ad->K' (.aK []) ad):(aI (some (false,1)) (.box k 1) (.str x) U).wp K U K' Kp:=by
 obtain⟨ks,h1,h2,h3⟩:=S.M;exact h1.BL (λ kv=>⟨rfl,rfl,by simp[nr],rfl⟩) S.A λ ad M A=>h ad ⟨A,S.hi,ks,M,h2,h3⟩
theorem Cw {x:Int} (S:Sk X ar r k i kind text n m at_ l U) (h:∀ ad,Sk X ar r k i x text n m at_ l ad->K' (.aK []) ad):(aI (some (false,1)) (.box k 0) (.int .u8 x) U).wp K U K' Kp:=by
 obtain⟨ks,h1,h2,h3⟩:=S.M;exact h1.BL (λ kv=>⟨rfl,rfl,by simp[nr],rfl⟩) S.A λ ad M A=>h ad ⟨A,S.hi,ks,M,h2,h3⟩
theorem BK {x:Int} (S:Sk X ar r k i kind text n m at_ l U) (h:∀ ad,Sk X ar r k i kind text x m at_ l ad->K' (.aK []) ad):(aI (some (false,1)) (.box k 2) (.int .i64 x) U).wp K U K' Kp:=by
 obtain⟨ks,h1,h2,h3⟩:=S.M;exact h1.BL (λ kv=>⟨rfl,rfl,by simp[nr],rfl⟩) S.A λ ad M A=>h ad ⟨A,S.hi,ks,M,h2,h3⟩
theorem ajE {x:Int} (S:Sk X ar r k i kind text n m at_ l U) (h:∀ ad,Sk X ar r k i kind text n x at_ l ad->K' (.aK []) ad):(aI (some (false,1)) (.box k 3) (.int .i64 x) U).wp K U K' Kp:=by
 obtain⟨ks,h1,h2,h3⟩:=S.M;exact h1.BL (λ kv=>⟨rfl,rfl,by simp[nr],rfl⟩) S.A λ ad M A=>h ad ⟨A,S.hi,ks,M,h2,h3⟩
theorem L9 {a:AV} {ns:List Nd} {j:Nat} (S:Sk X ar r k j kind text n m at_ l U) (hj:∀ ks,Mk ar U r k kind text n m at_ ks->eV true ks l->ks.length<=j->∃ ks',Mk ar U r k kind text n m at_ ks'/\eV true ks' l/\ks'.length+1<=j) (hk:eV false [a] ns) (h:∀ ad,Sk X ar r k j kind text n m at_ (l++ns) ad->K' (.box k 0) ad) :
 (au (some (87,1)) (some [AV.a8]) 1 false [(0,a)]).wp K U (λ v U=>ae K 103 [.box k 0,v] U (ah K' (aa R))) (aa R):=by
 have ha:a.dw=true/\av a=[a]:=by
  generalize hb:false=b at hk;generalize hl:[a]=la at hk;cases hk with
  | mk _ _=>cases hl; exact⟨rfl,rfl⟩
  | nil=>cases hl
  | cons _ _=>cases hb
 rw[hZ];refine⟨by omega,?_⟩;rw[ff (o:=0) (s:=1) rfl];refine⟨⟨ha.1,by rw[ha.2]; rfl,by simp[bT]⟩,?_⟩;rw[ja];rw[ha.2];refine⟨rfl,?_⟩;obtain⟨ks0,g1,g2,g3⟩:=S.M;obtain⟨ks,h1,h2,h3⟩:=hj ks0 g1 g2 g3;have:=X.small;have hi:=S.hi;refine acA (l2:=[a]) h1 S.A (by omega) rfl (by omega) λ ad M A=>?_;exact h ad ⟨A,S.hi,_,M,h2.snoc hk,by simp; omega⟩
theorem jq {p:PR (List Nd)} {q:List Nd->Nat->PR (List Nd)} (S:Sk X ar r k i kind text n m at_ l U) (C:Ct X f i p) (hp:Gd X.L.length (i+1) i p) (O:Out X r ar R (p.bind q))
 (h:∀ ns j ad,j<=X.L.length->i<j->Sk X ar r k j kind text n m at_ (l++ns) ad->Out X r ar R (q ns j)->K' (.box k 0) ad) :
 ae K f [.box r 0] U (ah (λ v U=>(au (some (87,1)) (some [AV.a8]) 1 false [(0,v)]).wp K U (λ v U=>ae K 103 [.box k 0,v] U (ah K' (aa R))) (aa R)) (aa R)):=by
 refine C r U _ S.A.box ⟨λ ns j e hj a ad hk A=>?_,λ j e ad A=>O.bad j (by rw[e]; rfl) ad (S.A.trans A)⟩;rw[e]at hp O;have gq:i<j:=hp.1;have S1:=S.jR A hj (by omega);refine L9 S1 (λ ks _ _ _=>?_) hk λ bf S2=>h ns j bf hj gq S2 O;obtain⟨ks,h1,h2,h3⟩:=S.M;exact⟨ks,h1.jR A S.A.box,h2,by omega⟩
theorem fi (S:Sk X ar r k i kind text n m at_ l U) (O:Out X r ar R (.ok (node kind text n m at_ l) i)):aq R (.box k 0) U:=by
 obtain⟨ks,h1,h2,h3⟩:=S.M;exact h1.done h2 S.A λ a ad hk A=>O.ok _ _ rfl S.hi a ad hk A
theorem Fh:aa (ah K' Kp)=Kp:=rfl
theorem Jx {lN:FuncId} (he:fC K.P lN=true) {c:List AV}:(jz K.P (.func (.func lN) [.box r 0] []) []).wp K U K' Kp=ae K lN [.box r 0] U (ah K' Kp):=by
 simp[jz,he]
theorem Gt {one:Nat->PR (List Nd)} {lN:FuncId} (he:fC K.P lN=true) (C:∀ i,i<=X.L.length->Ct X lN i (one i)) (hg:∀ i,i<=X.L.length->Gd X.L.length (i+1) i (one i))
 {fu:Nat} (hf:X.L.length-i<=fu) (h0:0<fu) {q:List Nd->Nat->PR (List Nd)} (S:Sk X ar r k i kind text n m at_ l U) (O:Out X r ar R ((jW X.L one fu i).bind q))
 (h:∀ ns j ad,j<=X.L.length->i<j->Sk X ar r k j kind text n m at_ (l++ns) ad->Out X r ar R (q ns j)->K' (.aK []) ad):ae K 106 [.box r 0,.box k 0,.func (.func lN) [.box r 0] []] U (ah K' (aa R)):=by
 refine Is ?_;unfold LP;rw[Jx he (c:=[])];have e:(jW X.L one fu i).bind q=(one i).bind λ a j=>(mO X.L one fu a j).bind q:=by
  unfold jW; cases one i<;>rfl
 rw[e]at O;simp only[Fh];refine jq S (C i S.hi) (hg i S.hi) O λ ns j aS hj gq S1 O1=>?_;refine⟨λ mm v0 v1 v2 ad=>∃ acc j f',mm=X.L.length-j/\v0=.box r 0/\v1=.box k 0/\v2=.func (.func lN) [.box r 0] []/\j<=X.L.length/\i<j/\X.L.length-j<f'/\Sk X ar r k j kind text n m at_ (l++acc) ad/\Out X r ar R ((mO X.L one f' acc j).bind q),
  ⟨_,ns,j,fu,rfl,rfl,rfl,rfl,hj,gq,by omega,S1,O1⟩,?_⟩
 rintro mm v0 v1 v2 bf ⟨acc,j2,f',rfl,rfl,rfl,rfl,pN,yY,Ks,S2,O2⟩;cases f' with
 | zero=>omega
 | succ f' =>
   unfold mO at O2;refine sR S2 (λ hw bR S3=>?_) (λ hw bR S3=>?_)
   . simp only[bH];rw[if_pos hw]at O2;have aN:=dI hw;rw[Jx he (c:=[])];have e2:((one (j2+1)).bind λ b j=>mO X.L one f' (acc++b) j).bind q=(one (j2+1)).bind λ b j=>(mO X.L one f' (acc++b) j).bind q:=by
      cases one (j2+1)<;>rfl
     rw[e2]at O2;refine jq S3 (C _ aN) (hg _ aN) O2 λ ns3 j3 cP hj3 aiH S4 O4=>?_;refine⟨_,?_,acc++ns3,j3,f',rfl,rfl,rfl,rfl,hj3,by omega,by omega,by rw[<- dc]; exact S4,O4⟩;omega
   . simp only[bq];rw[if_neg (by rw[hw]; simp)]at O2;exact aq.mk (h acc j2 bR pN yY S3 O2)
end
end Go.Rip
