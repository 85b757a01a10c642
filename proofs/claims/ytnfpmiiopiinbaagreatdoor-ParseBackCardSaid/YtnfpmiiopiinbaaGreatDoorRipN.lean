/- Lemmas for the proof: no conditions. -/
import Derived.Test.YtnfpmiiopiinbaaGreatDoorRipZz
import Derived.Test.YtnfpmiiopiinbaaGreatDoorRipM
import Derived.Test.YtnfpmiiopiinbaaGreatDoorRipF
import Derived.Test.YtnfpmiiopiinbaaGreatDoorRipG
import Derived.Test.YtnfpmiiopiinbaaGreatDoorRipH
import Derived.Test.YtnfpmiiopiinbaaGreatDoorRipE
set_option linter.unusedVariables false
set_option linter.unusedSimpArgs false
set_option linter.loopingSimpArgs false
namespace Go.Rip
open Go.RowKit
structure Rx where
 L:List Tk
 E:Nat
 tv:AV
 tr:eJ tv L.length (jB L)
 ok:∀ t ∈ L,mx t
 small:L.length <= 900
def rd (X:Rx) (i:Nat):List AV:=[X.tv,.int .i64 i,.int .i64 X.E,zP,sd]
def KI (X:Rx) (i:Nat):AV:=.iface 136 (.agg [.int .i64 (de X.L X.E i)])
theorem eJ.len {v:AV} {n:Nat} {cs:List AV} (h:eJ v n cs):cw (some false) v=.val (.int .i64 n):=by
 rcases h with ⟨rfl,rfl,rfl⟩ | ⟨c,rfl⟩ <;> rfl
theorem eJ.at {v:AV} {n:Nat} {cs:List AV} (h:eJ v n cs) {sz e j:Nat} (hj:j < n):∃ c,v=.vec n c cs/\aL (some (e,sz)) none v (.int .i64 (j:Int))=.cond (0 <= (j:Int)/\(j:Int) < n) (.val (.cN (cs.drop (j * sz)))):=by
 rcases h with ⟨rfl,rfl,rfl⟩ | ⟨c,rfl⟩
 . omega
 . exact ⟨c,rfl,by simp⟩
theorem Ba:∀ i,closed (K.zl i)=true:=fun i=>by
 show closed (if i=0 then .cN wb else if i=7 then .cN wT else .any)=true
 split
 . kernel_rfl
 . split
   . kernel_rfl
   . rfl
theorem Pure.of {f:Nat} {args:List AV} {x:AV} (hargs:cA args=true) (hx:closed x=true) (hr:∀ U,resolve 5 U x=x)
 (h:∀ R:cR->St->Prop,(∀ ad,R (.ret x) ad)->ae K f args (bM ⟨.e,0⟩) R):Pure K f args x :=
 Pure.AG Ba hargs hx 5 (h _ fun ad=>⟨x,rfl,hr ad⟩)
def idx (l:List aK) (s:aK):Int:=match l.findIdx? (·=s) with | some i=>i | none=>-1
theorem MI (c:lg) (l:List aK) (s:aK) (hn:l.length <= 100000):Pure K 230 [.vec l.length c (l.map .str),.str s] (.int .i64 (idx l s)):=by
 intro U R hR
 refine R5 ?_
 simp only [R4,tX,al]
 refine ⟨fun m v0 v1 v7 v8 ad=>∃ i:Nat,m=l.length - i/\i <= l.length/\v0=.vec l.length c (l.map .str)/\v1=.str s/\v7=.int .i64 l.length/\v8=.int .i64 i/\ad=U/\∀ j,j < i->l[j]? ≠ some s,⟨l.length,0,by simp [Fn.app]⟩,?_⟩
 intro m v0 v1 v7 v8 ad hI
 obtain ⟨i,rfl,hi,rfl,rfl,rfl,rfl,rfl,jt⟩:=hI
 simp only [cb,al,bY]
 refine ⟨fun aQ=>?_,fun kn=>?_⟩
 . have aQ:i < l.length:=by omega
   have hd:(l.map AV.str).drop (i * 1)=.str l[i]::(l.map AV.str).drop (i+1):=by
    rw [Nat.mul_one,gT (by simpa using aQ)]; simp
   simp only [yO,wp_cond,al,iZ,hd,u9,dF,mz,bY]
   refine ⟨by omega,fun he=>?_,fun cn=>?_⟩
   . refine ak.eq hR ?_
     have:l.findIdx? (·=s)=some i:=by
      rw [IV]
      refine ⟨aQ,by simp [he],fun j hj=>?_⟩
      have:=jt j hj
      rw [pk (by omega)] at this
      simpa using this
     simp [idx,this]
   . simp only [my,gL,wp_cond,al]
     refine ⟨bI (by omega) (by omega),?_⟩
     refine ⟨l.length - (i+1),by omega,i+1,rfl,by omega,rfl,rfl,rfl,by simp,rfl,fun j hj=>?_⟩
     . rcases jL j i with h | h
       . exact jt j h
       . have:j=i:=by omega
         subst this
         rw [pk aQ]; simpa using fun h=>cn h.symm
 . refine ak.eq hR ?_
   have:l.findIdx? (·=s)=none:=by
    rw [List.findIdx?_eq_none_iff]
    intro x hx
    obtain ⟨j,hj,rfl⟩:=List.getElem_of_mem hx
    have:=jt j (by omega)
    rw [pk hj] at this
    simpa using this
   simp [idx,this]
section
variable {X:Rx} {r i:Nat} {U:St} {R:cR->St->Prop}
theorem IT (hr:U.box r=some (rd X i)) (h:R (.ret (.int .i64 (de X.L X.E i))) U):ae K 164 [.box r 0] U R:=by
 refine Ru ?_
 simp only [Rs,bS,aJ,aZ,ld hr,rd,List.drop,dF,X.tr.len,cb,bY,al,cU]
 refine ⟨fun aQ=>?_,fun kn=>?_⟩
 . have aQ:i < X.L.length:=by omega
   obtain ⟨c,hv,tw⟩:=X.tr.at (sz:=3) (e:=51) aQ
   obtain ⟨t,ht⟩:∃ t,X.L[i]?=some t:=⟨X.L[i],by simp [aQ]⟩
   obtain ⟨rest,hd⟩:=Ez ht
   simp only [tw,mE,aJ,hd,dJ,u9,qf,ix,jN,List.drop,dF]
   refine ⟨by omega,ak.mk ?_⟩
   have:de X.L X.E i=t.at_:=by simp [de,ht]
   rw [<- this]; exact h
 . refine ak.mk ?_
   have:de X.L X.E i=X.E:=by simp [de,uE (show X.L.length <= i by omega)]
   rw [<- this]; exact h
def rX:Option Tk->List AV
 | some t=>qf t
 | none=>[.int .u8 0,.str [],.int .i64 0]
theorem qE (hr:U.box r=some (rd X i)) (hi:i <= X.L.length) (k:Nat) (hk:k <= 10) (h:∀ ad,cW U ad->R (.ret (.agg (rX X.L[i+k]?))) ad):ae K 167 [.box r 0,.int .i64 k] U R:=by
 refine Rz ?_
 have hs:=X.small
 simp only [Ry,kO]
 intro b hb
 have KZ:=hb.bP hr
 have H0:(U.new b (.box [AV.int .u8 0,AV.str [],AV.int .i64 0])).box r=some (rd X i):=by rw [pz KZ]; exact hr
 have gQ:(U.new b (.box [AV.int .u8 0,AV.str [],AV.int .i64 0])).box b=some [AV.int .u8 0,AV.str [],AV.int .i64 0]:=aG
 simp only [NV.at,bS,aJ,aZ,ld H0,rd,List.drop,dF,X.tr.len,my,gL,mE,cb,bY,al,cU]
 refine ⟨bI (by omega) (by omega),fun aQ=>?_,fun kn=>?_⟩
 . have aQ:i+k < X.L.length:=by omega
   obtain ⟨c,hv,tw⟩:=X.tr.at (sz:=3) (e:=51) aQ
   obtain ⟨t,ht⟩:∃ t,X.L[i+k]?=some t:=⟨X.L[i+k],by simp [aQ]⟩
   obtain ⟨rest,hd⟩:=Ez ht
   rw [<- Int.natCast_add]
   simp only [tw,mE,aJ,hd,M5,Ae gQ,wp_cond,mv]
   refine ⟨bI (by omega) (by omega),by omega,by simp [qf],by simp [qf],?_⟩
   rw [vL (Py (aV) 3 0)]
   refine ⟨by simp [ay,qf],?_⟩
   refine ak.eq (h _ (((cW.refl U).new hb).set hb.1)) ?_
   simp [ay,qf,ht,rX]
 . simp only [dO,gu,al,Ae gQ,wp_cond,mv]
   refine ⟨by simp,?_⟩
   rw [vL (Py (aV) 3 0)]
   refine ⟨by simp [ay],?_⟩
   refine ak.eq (h _ (((cW.refl U).new hb).set hb.1)) ?_
   simp [ay,uE (show X.L.length <= i+k by omega),rX]
def vN (o:Option Tk) (l:List aK):Bool:=match o with
 | some t=>(t.k == 3 || t.k == 4) && decide (t.s ∈ l)
 | none=>false
theorem MH (l:List aK) (s:aK):decide (0 <= idx l s)=decide (s ∈ l):=by
 unfold idx
 split
 . rename_i j hj
   obtain ⟨h1,h2,_⟩:=IV.1 hj
   have:s ∈ l:=by have:=of_decide_eq_true h2; exact this ▸ List.getElem_mem h1
   simp [this]
 . rename_i hj
   rw [List.findIdx?_eq_none_iff] at hj
   have:s ∉ l:=fun hm=>by simpa using hj s hm
   simp [this]
theorem Gn (c:lg) (l:List aK) (s:aK) (hn:l.length <= 100000):Pure K 178 [.vec l.length c (l.map .str),.str s] (.bool (decide (s ∈ l))):=by
 intro U R hR
 refine RD ?_
 refine (MI c l s hn).go ?_
 simp only [il,al]
 refine ak.eq hR ?_
 rw [MH]
theorem B2 {c:lg} (o:Option Tk) (l:List aK) (hn:l.length <= 100000) (h:∀ ad,cW U ad->R (.ret (.bool (vN o l))) ad):ae K 121 [.agg (rX o),.vec l.length c (l.map .str)] U R:=by
 refine QG ?_
 have hl:∃ k s a,rX o=[.int .u8 k,.str s,.int .i64 a]/\vN o l=((decide (k=3) || decide (k=4)) && decide (s ∈ l)):=by
  cases o with
  | none=>exact ⟨0,[],0,rfl,rfl⟩
  | some t=>exact ⟨t.k,t.s,t.at_,rfl,by
     have e:∀ m:Nat,(t.k == m)=decide ((t.k:Int)=(m:Int)):=fun m=>by
      rw [pU]; simp; omega
     simp only [vN,e 3,e 4]; rfl⟩
 obtain ⟨k,s,a,e1,e2⟩:=hl
 rw [e1]
 simp only [QF,EO _ (Up _),wp_cond,true_and,ER,kO]
 intro b_ hb
 have gQ:(U.new b_ (.box [.int .u8 k,.str s,.int .i64 a])).box b_=some [.int .u8 k,.str s,.int .i64 a]:=aG
 have hx:=h _ ((cW.refl U).new (x:=.box [.int .u8 k,.str s,.int .i64 a]) hb)
 rw [e2] at hx
 simp only [NV.at,aZ,al,ld gQ,List.drop,dF,br,bf,aN,rF,cU]
 have OY:=Gn c l s hn
 have step:∀ b:Bool,((decide (k=3) || decide (k=4)) && decide (s ∈ l))=b->ak R (.bool b) (U.new b_ (.box [.int .u8 k,.str s,.int .i64 a])):=fun b e=>by subst e; exact ak.mk hx
 by_cases h3:k=3
 . subst h3
   simp [ld gQ]
   exact ⟨_,OY,step _ (by simp)⟩
 . by_cases h4:k=4
   . subst h4
     simp [ld gQ]
     exact ⟨_,OY,step _ (by simp)⟩
   . simp [ld gQ,h3,h4]
     exact step _ (by simp [h3,h4])
theorem JO (s w:aK):decide (s ∈ [w])=(s == w):=by
 by_cases h:s=w
 . simp [h]
 . simp [h]
theorem AH (L:List Tk) (i:Nat) (w:aK):vN L[i]? [w]=bj L i w:=by
 unfold vN bj
 split
 . rename_i t ht; rw [ht,JO]
 . rename_i ht; rw [ht]
theorem MO {c:lg} (hr:U.box r=some (rd X i)) (hi:i <= X.L.length) (l:List aK) (hn:l.length <= 100000) (h:∀ ad,cW U ad->R (.ret (.bool (vN X.L[i]? l))) ad):ae K 105 [.box r 0,.vec l.length c (l.map .str)] U R:=by
 refine Qv ?_
 refine qE hr hi 0 (by omega) fun aR e1=>?_
 refine B2 (X.L[i]?) l hn fun a7 e2=>?_
 exact ak.mk (h _ (e1.trans e2))
theorem IB (hr:U.box r=some (rd X i)) (hi:i <= X.L.length) (w:aK)
 (h1:bj X.L i w=true->∀ ad,gr r (rd X (i+1)) U ad->R (.ret (.bool true)) ad) (h2:bj X.L i w=false->∀ ad,cW U ad->R (.ret (.bool false)) ad):ae K 100 [.box r 0,.str w] U R:=by
 refine Qn ?_
 have hs:=X.small
 simp only [Qm,ar,gu,ET,Ur,bN,wp_cond,al,ay,List.take,List.drop,jN,ix,gy]
 refine ⟨by omega,by simp,by simp,?_⟩
 refine MO (l:=[w]) hr hi (by simp) fun aR e1=>?_
 have H0:=e1.aX hr
 simp only [bB,ey,al,AH]
 cases hw:bj X.L i w with
 | false=>simp only [eQ,bE]; exact ak.mk (h2 hw _ e1)
 | true =>
   simp only [c8,bm,bS,al,aZ,ld H0,rd,List.drop,dF,cU,my,gL,wp_cond,Ae H0,mv]
   refine ⟨bI (by omega) (by omega),by simp,ak.mk (h1 hw _ ⟨?_,(e1.Hr (r:=r)).set (.inr rfl)⟩)⟩
   rw [aV]; simp [ay,rd]
theorem KH (hr:U.box r=some (rd X i)) (h:R (.panic (KI X i)) U):ae K 166 [.box r 0] U R:=by
 refine Rw ?_
 refine IT hr ?_
 simp only [bB,dO,gu,Oj,Uq,wp_cond,al,ay,xT,if_true,uA,VG]
 refine ⟨by simp,?_⟩
 exact h
theorem Eg (hr:U.box r=some (rd X i)) (hi:i <= X.L.length) (w:aK)
 (h1:bL X.L w i=.ok () (i+1)->i+1 <= X.L.length->∀ ad,gr r (rd X (i+1)) U ad->R (.ret (.aH [])) ad) (h2:bL X.L w i=.bad i->∀ ad,gr r (rd X i) U ad->R (.panic (KI X i)) ad):ae K 102 [.box r 0,.str w] U R:=by
 refine Qp ?_
 refine IB hr hi w (fun hw aR a1=>?_) (fun hw aR e1=>?_)
 . simp only [bB,ey,al,c8,bm]
   exact ak.mk (h1 (by simp [bL,hw]) (dw hw) _ a1)
 . simp only [bB,ey,al,eQ,bE]
   exact KH (e1.aX hr) (h2 (by simp [bL,hw]) _ (.mg hr e1))
theorem vq (o:Option Tk):∃ k:Int,∃ s a,rX o=[.int .u8 k,.str s,.int .i64 a]/\(∀ m:Nat,0 < m->(k=(m:Int) ↔ ∃ t,o=some t/\t.k=m/\t.s=s)):=by
 cases o with
 | none=>exact ⟨0,[],0,rfl,fun m hm=>⟨fun h=>by omega,fun ⟨t,h,_⟩=>by cases h⟩⟩
 | some t=>exact ⟨t.k,t.s,t.at_,rfl,fun m hm=>⟨fun h=>⟨t,rfl,by omega,rfl⟩,fun ⟨u,h,h2,h3⟩=>by cases h; omega⟩⟩
theorem PV (hr:U.box r=some (rd X i)) (hi:i <= X.L.length) (k:Nat) (hk:0 < k)
 (h1:∀ t,X.L[i]?=some t->t.k=k->i+1 <= X.L.length->∀ ad,gr r (rd X (i+1)) U ad->R (.ret (.str t.s)) ad) (h2:(∀ t,X.L[i]?=some t->t.k ≠ k)->∀ ad,gr r (rd X i) U ad->R (.panic (KI X i)) ad):ae K 165 [.box r 0,.int .u8 k] U R:=by
 refine Rv ?_
 have hs:=X.small
 refine qE hr hi 0 (by omega) fun aR e1=>?_
 have H0:=e1.aX hr
 obtain ⟨m,s,a,e,hm⟩:=vq X.L[i+0]?
 rw [e]
 simp only [bB,kO]
 intro b hb
 have KZ:=hb.bP H0
 have e2:=e1.new (x:=.box [AV.int .u8 0,AV.str [],AV.int .i64 0]) hb
 have gQ:(aR.new b (.box [AV.int .u8 0,AV.str [],AV.int .i64 0])).box b=some [AV.int .u8 0,AV.str [],AV.int .i64 0]:=aG
 simp only [NV.at,Ae gQ,wp_cond,mv]
 refine ⟨by simp,?_⟩
 have e3:=e2.set (x:=.box (ay [AV.int .u8 0,AV.str [],AV.int .i64 0] 0 (au (.agg [.int .u8 m,.str s,.int .i64 a])))) (e1.fresh hb.1)
 generalize p6:(aR.new b (.box [AV.int .u8 0,AV.str [],AV.int .i64 0])).set b (.box (ay [AV.int .u8 0,AV.str [],AV.int .i64 0] 0 (au (.agg [.int .u8 m,.str s,.int .i64 a]))))=bO at e3 ⊢
 have lq:bO.box b=some [.int .u8 m,.str s,.int .i64 a]:=by rw [<- p6,aV]; rfl
 have yL:=e3.aX hr
 intro j hj
 simp only [aZ,al,ld lq,List.drop,dF,cU,dp,aw,Bool.not_eq_true',decide_eq_false_iff_not,Bool.not_eq_false',dS]
 refine ⟨fun cn=>?_,fun heq=>?_⟩
 . refine KH yL ?_
   exact h2 (fun t ht he=>cn ((hm k hk).2 ⟨t,ht,he,by rw [Nat.add_zero,ht] at e; cases e; rfl⟩)) _ (.mg hr e3)
 . obtain ⟨t,ht,qN,zw⟩:=(hm k hk).1 heq
   have aQ:=(dx.1 ht).1
   refine hj _ _ _ ?_
   simp only [bS,al,aZ,ld yL,rd,List.drop,dF,cU,my,gL,wp_cond,Ae yL,mv]
   refine ⟨bI (by omega) (by omega),by simp,?_⟩
   rw [mv]
   generalize Ie:bO.set r _=cG
   have gN:cG.box b=some [.int .u8 m,.str s,.int .i64 a]:=by rw [<- Ie,aO (Ne.symm KZ)]; exact lq
   have hr4:cG.box r=some (rd X (i+1)):=by rw [<- Ie,aV]; simp [ay,rd]
   have e4:kL r U cG:=by rw [<- Ie]; exact (e3.Hr (r:=r)).set (.inr rfl)
   simp only [ld gN,List.drop,dF,al]
   refine ak.mk ?_
   rw [<- zw]
   exact h1 t ht qN aQ _ ⟨hr4,e4⟩
theorem Yh (hr:U.box r=some (rd X i)) (hi:i <= X.L.length)
 (h1:∀ x,gK X.L i=.ok x (i+1)->i+1 <= X.L.length->∀ ad,gr r (rd X (i+1)) U ad->R (.ret (.str x)) ad) (h2:gK X.L i=.bad i->∀ ad,gr r (rd X i) U ad->R (.panic (KI X i)) ad):ae K 101 [.box r 0] U R:=by
 refine Qo ?_
 refine PV hr hi 1 (by omega) (fun t ht hk hl aR a1=>?_) (fun hn aR a1=>?_)
 . exact ak.mk (h1 t.s (by simp [gK,ht,hk]) hl _ a1)
 . refine h2 ?_ _ a1
   unfold gK
   split
   . rename_i t ht; rw [if_neg (hn t ht)]
   . rfl
end
end Go.Rip
namespace Go.Rip
open Go.Proofs Go.RowKit
theorem Pure.PT {f:FuncId} {args:List AV} {vs:List Value} {x:AV} {v:Value} (hargs:∀ g us,aA g args us->us=vs) (hx:∀ g,az g x v)
 (h:∀ w,Calls K.P f vs.toArray w fun e w'=>e=.returned v/\w.grownBy w' none):Pure K f args x:=by
 intro U R hR g w us hs hG ha
 have:=hargs g us ha
 subst this
 refine callsIn_wide.2 ((h w).mono fun e w' ⟨h1,h2⟩=>?_)
 subst h1
 exact ⟨g,U,x,Gh.Le.refl g,hs.grow h2,hx g,hR⟩
theorem JK (w:World) (e:TypeId) (s:ByteArray):w.grownBy (Lib.bytesWorld w e s) none:=by
 have cn:∀ q,q < w.heap.size->w.heap.size ≠ q:=fun q h=>by omega
 unfold Lib.bytesWorld World.freeze
 split
 . exact ⟨rfl,rfl,rfl,by simp [World.alloc,World.drew,-World.alloc_eq,-World.drew_eq],fun q hq _=>by simp [World.alloc,World.drew,-World.alloc_eq,-World.drew_eq,Array.getElem?_push,Nat.ne_of_lt hq]⟩
 . refine ⟨rfl,rfl,rfl,by simp [World.alloc,World.drew,-World.alloc_eq,-World.drew_eq],fun q hq _=>?_⟩
   simp [World.alloc,World.drew,-World.alloc_eq,-World.drew_eq,Array.getElem?_modify,Array.getElem?_push,cn q hq,Nat.ne_of_lt hq]
theorem NZ (s:aK) (h0:s ≠ []) (h:pd s=0):Pure K 218 [.str s] (.aH [.int .i64 (vG s),.dr]):=by
 obtain ⟨h1,h2,_⟩:=zK h0 h
 refine Pure.PT (vs:=[.string ⟨s.toArray⟩]) (v:=.tuple #[.int .i64 (vG s),.nilIface]) (fun g us hr=>UK hr) (fun g=>by simp [az,aA]) fun w=>?_
 refine (Tryz.strconv_Atoi ⟨s.toArray⟩ (vG s) (by show s.toArray.size <= 18; simp; omega) (Ta h0 (Ej h).1) w).mono fun e w' ⟨he,t,hw⟩=>⟨he,?_⟩
 subst hw
 exact JK _ _ _
section
variable {X:Rx} {r i:Nat} {U:St} {R:cR->St->Prop}
theorem PN (hr:U.box r=some (rd X i)) (hi:i <= X.L.length)
 (h1:∀ x,jm X.L i=.ok x (i+1)->i+1 <= X.L.length->∀ ad,gr r (rd X (i+1)) U ad->R (.ret (.int .i64 x)) ad) (h2:jm X.L i=.bad i->∀ ad,gr r (rd X i) U ad->R (.panic (KI X i)) ad):ae K 168 [.box r 0] U R:=by
 refine RA ?_
 refine PV hr hi 2 (by omega) (fun t ht hk hl aR a1=>?_) (fun hn aR a1=>?_)
 . have cK:=X.ok t (gh ht)
   refine (NZ t.s cK.1 (Lo cK hk)).go ?_
   simp only [bu,List.drop,dF,al,ax,if_true]
   intro j hj
   simp only [and_self,if_true,al,bm]
   exact hj _ _ (ak.mk (h1 _ (by simp [jm,ht,hk]) hl _ a1))
 . refine h2 ?_ _ a1
   unfold jm
   split
   . rename_i t ht; rw [if_neg (hn t ht)]
   . rfl
def mf (kind:Int) (text:aK) (n m at_:Int) (kv:AV):List AV:=[.int .u8 kind,.str text,.int .i64 n,.int .i64 m,.int .i64 at_,.int .i64 0,kv]
def Grow (U:St) (v:AV) (e:TypeId) (sz n:Nat) (l:List AV):Prop:=(n=0/\l=[]/\v=.ah)\/∃ τ,v=.vec n (.own τ) l/\U.tok τ=some ⟨n,e,sz⟩/\l.length=n * sz
def Y4 (aq:St) (v:AV):Prop:=∀ n τ l,v=.vec n (.own τ) l->aq.live τ=none
theorem DK {e sz n m:Nat} {v y:AV} {l l2:List AV} {K':AV->St->Prop} {Kp:AV->St->Prop} (hg:Grow U v e sz n l) (hy:rJ U y=some (m,l2)) (hl:l2.length=m * sz) (hm:0 < m) (hb:n+m <= 4294967296) (h0:n=0->v=.ah)
 (h:∀ ad v',Grow ad v' e sz (n+m) (l++l2)->(∀ b x,(∀ n l,v ≠ .vec n (.own b) l)->U.live b=some x->ad.live b=some x)->(∀ n τ l,v'=.vec n (.own τ) l->U.live τ=none\/∃ n l,v=.vec n (.own τ) l)->K' v' ad):(eH (some (e,sz)) false v y U).wp K U K' Kp:=by
 rcases hg with ⟨rfl,rfl,rfl⟩ | ⟨τ,rfl,ht,Fg⟩
 . have O5:m ≠ 0:=by omega
   simp only [eH,hy,if_neg O5,bU,if_false,wp_cond]
   refine ⟨hl,by omega,fun b ff=>?_⟩
   refine h _ _ (.inr ⟨b,by simp [NV.at],by rw [cU]; exact DE,by simp [hl]⟩) (fun c x hc hx=>(bg ff) c x hx) fun n τ l hv=>?_
   simp only [NV.at,AV.vec.injEq,lg.own.injEq] at hv
   exact .inl (hv.2.1 ▸ ff.1)
 . have CX:n ≠ 0:=fun e=>by have:=h0 e; cases this
   simp only [eH,hy,wp_cond]
   refine ⟨hl,⟨ht,Fg,hb⟩,fun b ff=>?_⟩
   refine h _ _ (.inr ⟨b,rfl,DE,by simp [hl,Fg,Nat.add_mul]⟩) (fun c x hc hx=>?_) fun n' uO l' hv=>?_
   . refine (bg ff) c x ?_
     have cn:c ≠ τ:=fun e=>hc n l (by rw [e])
     show (U.del τ).live c=some x
     rw [kF,if_neg cn]; exact hx
   . simp only [NV.at,AV.vec.injEq,lg.own.injEq] at hv
     have hf:=ff.1
     rw [<- hv.2.1]
     by_cases e:b=τ
     . subst e; exact .inr ⟨_,_,rfl⟩
     . left
       have:(U.del τ).live b=none:=hf
       rw [kF,if_neg e] at this; exact this
structure Mk (aq U:St) (r k:Nat) (kind:Int) (text:aK) (n m at_:Int) (ks:List AV):Prop where
 box:∃ kv,U.box k=some (mf kind text n m at_ kv)/\Grow U kv 87 1 ks.length ks/\Y4 aq kv/\(ks=[]->kv=.ah)
 new:aq.live k=none
 ne:k ≠ r
inductive eA:Bool->List AV->List Nd->Prop
 | mk {kind:Int} {text:aK} {n m at_:Int} {kv:AV} {ks:List AV} {l:List Nd}:eA true ks l->(ks=[]/\kv=.ah\/∃ c,kv=.vec ks.length c ks)->eA false [.cN (mf kind text n m at_ kv)] (node kind text n m at_ l)
 | nil:eA true [] []
 | cons {a:AV} {ks:List AV} {l l':List Nd}:eA false [a] l->eA true ks l'->eA true (a::ks) (l++l')
theorem eA.snoc {ks:List AV} {l:List Nd} {a:AV} {l':List Nd} (h:eA true ks l) (k:eA false [a] l'):eA true (ks++[a]) (l++l'):=by
 generalize hb:true=b at h
 induction h with
 | mk _ _ _=>cases hb
 | nil=>simpa using eA.cons k eA.nil
 | cons h1 h2 _ ih=>rw [gn]; exact .cons h1 (ih rfl)
theorem eA.one {a:AV} {l:List Nd} (k:eA false [a] l):eA true [a] l:=by simpa using eA.cons k eA.nil
section
variable {X:Rx} {r i j k:Nat} {aq U ad:St} {R:cR->St->Prop} {kind:Int} {text:aK} {n m at_:Int} {ks:List AV}
theorem Mk.jb {l:List AV} (M:Mk aq U r k kind text n m at_ ks) (a:gr r l U ad) {l':List AV} (hr:U.box r=some l'):Mk aq ad r k kind text n m at_ ks:=by
 obtain ⟨kv,h1,h2,h3,h4⟩:=M.box
 refine ⟨⟨kv,a.ex.aX M.ne h1,?_,h3,h4⟩,M.new,M.ne⟩
 rcases h2 with h2 | ⟨τ,e,ht,hl⟩
 . exact .inl h2
 . exact .inr ⟨τ,e,a.ex.tok (eV hr ht).symm ht,hl⟩
theorem Mk.Ae (M:Mk aq U r k kind text n m at_ ks) {o w:Nat} {v:AV} {Wx:Int} {Xl:aK} {n' m' aar:Int} {K':AV->St->Prop} {Kp:AV->St->Prop} {t:Bool}
 (hs:∀ kv,v.dc=true/\(au v).length=w/\o+w <= (mf kind text n m at_ kv).length/\ay (mf kind text n m at_ kv) o (au v)=mf Wx Xl n' m' aar kv)
 {L:List AV} (A:gr r L aq U)
 (h:∀ ad,Mk aq ad r k Wx Xl n' m' aar ks->gr r L aq ad->K' (.aH []) ad):(aF (some (t,w)) (.box k o) v U).wp K U K' Kp:=by
 obtain ⟨kv,h1,h2,h3,h4⟩:=M.box
 obtain ⟨s1,s2,s3,s4⟩:=hs kv
 rw [cI h1,s4]
 refine ⟨⟨s1,s2,s3⟩,h _ ⟨⟨kv,aV,?_,h3,h4⟩,M.new,M.ne⟩ ⟨by rw [aO M.ne.symm]; exact A.box,A.ex.set (.inl M.new)⟩⟩
 rcases h2 with h2 | ⟨τ,e,ht,hl⟩
 . exact .inl h2
 . exact .inr ⟨τ,e,by rw [gX (eV h1 ht).symm]; exact ht,hl⟩
theorem Yy (hr:U.box r=some (rd X i)) (kind:Int) (h:∀ k ad,Mk U ad r k kind [] 0 0 (de X.L X.E i) []->gr r (rd X i) U ad->R (.ret (.box k 0)) ad):ae K 99 [.box r 0,.int .u8 kind] U R:=by
 refine Vg ?_
 refine IT hr ?_
 refine oQ [.int .u8 kind,.str [],.int .i64 0,.int .i64 0,.int .i64 (de X.L X.E i),.int .i64 0] rfl ?_
 refine oQ (mf kind [] 0 0 (de X.L X.E i) .ah) rfl ?_
 rw [fA rfl]
 intro b hb
 exact ak.mk (h b _ ⟨⟨_,aG,.inl ⟨rfl,rfl,rfl⟩,(fun _ _ _ e=>by cases e),fun _=>rfl⟩,hb.1,(hb.bP hr).symm⟩ (.mg hr ((cW.refl U).new hb)))
theorem LO {L:List AV} {mm:Nat} {c:lg} {l2:List AV} (M:Mk aq U r k kind text n m at_ ks) (A:gr r L aq U) (hm:0 < mm) (hl:l2.length=mm) (hb:ks.length+mm <= 4294967296)
 (h:∀ ad,Mk aq ad r k kind text n m at_ (ks++l2)->gr r L aq ad->ak R (.box k 0) ad):ae K 103 [.box k 0,.vec mm c l2] U R:=by
 refine Qs ?_
 obtain ⟨kv,h1,h2,h3,h4⟩:=M.box
 simp only [Qq,bS,al,aZ,gz h1,mf,List.drop,bA,cU]
 refine DK h2 rfl (by simp [hl]) hm hb (fun e=>h4 (sv.1 e)) fun aR v' g1 e1 n1=>?_
 have k1:aR.box k=some (mf kind text n m at_ kv):=by
  cases e:U.live k with
  | none=>exact absurd e (cj h1)
  | some x =>
    have:=e1 k x (fun n' l' hv=>by
     rcases h2 with ⟨_,_,h2⟩ | ⟨τ,h2,ht,_⟩
     . rw [h2] at hv; cases hv
     . rw [h2] at hv; cases hv; exact eV h1 ht rfl) e
    rw [dy (this.trans e.symm)]; exact h1
 have A1:gr r L aq aR:=by
  have key:∀ b x,aq.live b=some x->U.live b=some x->aR.live b=some x:=fun b x hx hy=>e1 b x (fun n' l' hv=>by rw [h3 _ _ _ hv] at hx; cases hx) hy
  refine ⟨?_,fun b x hbr hx=>key b x hx (A.ex b x hbr hx)⟩
  cases e:U.live r with
  | none=>exact absurd e (cj A.box)
  | some x =>
    have:=e1 r x (fun n' l' hv=>by
     rcases h2 with ⟨_,_,h2⟩ | ⟨τ,h2,ht,_⟩
     . rw [h2] at hv; cases hv
     . rw [h2] at hv; cases hv; exact eV A.box ht rfl) e
    rw [dy (this.trans e.symm)]; exact A.box
 rw [cI k1]
 have cn:v' ≠ .ah:=by
  rcases g1 with ⟨h0,_,_⟩ | ⟨τ,e,_⟩
  . omega
  . rw [e]; simp
 have dc:v'.dc=true/\au v'=[v']:=by
  rcases g1 with ⟨h0,_,_⟩ | ⟨τ,e,_⟩
  . omega
  . rw [e]; exact ⟨rfl,rfl⟩
 refine ⟨⟨dc.1,by rw [dc.2]; rfl,by simp [mf]⟩,(h _ ⟨⟨v',?_,?_,fun n' uO l' hv=>?_,fun e=>?_⟩,M.new,M.ne⟩ ⟨by rw [aO M.ne.symm]; exact A1.box,A1.ex.set (.inl M.new)⟩)⟩
 . rw [aV,dc.2]; rfl
 . rw [df,hl]
   rcases g1 with h0 | ⟨τ,e,ht,hl⟩
   . exact .inl h0
   . exact .inr ⟨τ,e,by rw [gX (eV k1 ht).symm]; exact ht,hl⟩
 . rcases n1 n' uO l' hv with hx | ⟨n2,l2',hx⟩
   . cases e:aq.live uO with
     | none=>rfl
     | some x =>
       by_cases hrt:uO=r
       . subst hrt; exact absurd hx (cj A.box)
       . have:=A.ex uO x hrt e; rw [hx] at this; cases this
   . exact h3 _ _ _ hx
 . have:l2=[]:=(List.append_eq_nil_iff.1 e).2
   subst this; simp at hl; omega
theorem Y6 {L:List AV} {mm:Nat} {c:lg} {l2:List AV} (M:Mk aq U r k kind text n m at_ ks) (A:gr r L aq U) (hm:0 < mm) (hl:l2.length=mm) (hb:ks.length+mm <= 4294967296)
 (h:∀ ad,Mk aq ad r k kind text n m at_ (ks++l2)->gr r L aq ad->R (.ret (.box k 0)) ad):ae K 103 [.box k 0,.vec mm c l2] U R:=LO M A hm hl hb fun ad M A=>ak.mk (h ad M A)
theorem Mk.done {l:List AV} {ns:List Nd} (M:Mk aq U r k kind text n m at_ ks) (hk:eA true ks ns) (A:gr r l aq U) (h:∀ a ad,eA false [a] (node kind text n m at_ ns)->gr r l aq ad->R (.ret a) ad):ak R (.box k 0) U:=by
 obtain ⟨kv,h1,h2,h3,h4⟩:=M.box
 refine ⟨_,_,mS.freeze h1,h _ _ (.mk hk ?_) ⟨by rw [jg M.ne.symm]; exact A.box,A.ex.del (.inl M.new)⟩⟩
 rcases h2 with ⟨e1,e2,e3⟩ | ⟨τ,e,_,_⟩
 . exact .inl ⟨e2,e3⟩
 . exact .inr ⟨_,e⟩
end
end
end Go.Rip
namespace Go.Rip
open Go.Proofs Go.RowKit
structure Out (X:Rx) (r:Nat) (aq:St) (R:cR->St->Prop) (p:PR (List Nd)):Prop where
 ok:∀ ns j,p=.ok ns j->j <= X.L.length->∀ a ad,eA false [a] ns->gr r (rd X j) aq ad->R (.ret a) ad
 bad:∀ j,p=.bad j->∀ ad,gr r (rd X j) aq ad->R (.panic (KI X j)) ad
def Ct (X:Rx) (f:FuncId) (i:Nat) (p:PR (List Nd)):Prop:=∀ (r:Nat) (U:St) (R:cR->St->Prop),U.box r=some (rd X i)->Out X r U R p->ae K f [.box r 0] U R
structure Sk (X:Rx) (aq:St) (r k i:Nat) (kind:Int) (text:aK) (n m at_:Int) (l:List Nd) (U:St):Prop where
 A:gr r (rd X i) aq U
 hi:i <= X.L.length
 M:∃ ks,Mk aq U r k kind text n m at_ ks/\eA true ks l/\ks.length <= i
section
variable {X:Rx} {aq U:St} {r k i:Nat} {kind:Int} {text:aK} {n m at_:Int} {l:List Nd} {R:cR->St->Prop} {K':AV->St->Prop} {Kp:AV->St->Prop} {w:aK} {f:FuncId}
theorem Sk.jb (S:Sk X aq r k i kind text n m at_ l U) {ad:St} {j:Nat} (A:gr r (rd X j) U ad) (hj:j <= X.L.length) (fP:i <= j):Sk X aq r k j kind text n m at_ l ad:=by
 obtain ⟨ks,h1,h2,h3⟩:=S.M
 exact ⟨S.A.trans A,hj,ks,h1.jb A S.A.box,h2,by omega⟩
theorem Out.jb {ad:St} {p:PR (List Nd)} {L:List AV} (O:Out X r U R p) (A:gr r L U ad):Out X r ad R p :=
 ⟨fun ns j h hj a a7 k A2=>O.ok ns j h hj a a7 k (A.trans A2),fun j h a7 A2=>O.bad j h a7 (A.trans A2)⟩
theorem gG (hr:U.box r=some (rd X i)) (hi:i <= X.L.length) {kind:Int} (h:∀ k ad,Sk X U r k i kind [] 0 0 (de X.L X.E i) [] ad->K' (.box k 0) ad):ae K 99 [.box r 0,.int .u8 kind] U (ag K' Kp) :=
 Yy hr kind fun k ad M A=>h k ad ⟨A,hi,[],M,.nil,by simp⟩
theorem dA {q:Unit->Nat->PR (List Nd)} (S:Sk X aq r k i kind text n m at_ l U) (O:Out X r aq R ((bL X.L w i).bind q)) (h:∀ ad,Sk X aq r k (i+1) kind text n m at_ l ad->Out X r aq R (q () (i+1))->K' (.aH []) ad):ae K 102 [.box r 0,.str w] U (ag K' (aa R)) :=
 Eg S.A.box S.hi w (fun e hl ad A=>h ad (S.jb A hl (by omega)) (by rw [e] at O; exact O)) fun e ad A=>O.bad _ (by rw [e]; rfl) _ (S.A.trans A)
theorem nx {q:aK->Nat->PR (List Nd)} (S:Sk X aq r k i kind text n m at_ l U) (O:Out X r aq R ((gK X.L i).bind q)) (h:∀ x ad,Sk X aq r k (i+1) kind text n m at_ l ad->Out X r aq R (q x (i+1))->K' (.str x) ad):ae K 101 [.box r 0] U (ag K' (aa R)) :=
 Yh S.A.box S.hi (fun x e hl ad A=>h x ad (S.jb A hl (by omega)) (by rw [e] at O; exact O)) fun e ad A=>O.bad _ (by rw [e]; rfl) _ (S.A.trans A)
theorem pq {q:Int->Nat->PR (List Nd)} (S:Sk X aq r k i kind text n m at_ l U) (O:Out X r aq R ((jm X.L i).bind q)) (h:∀ x ad,Sk X aq r k (i+1) kind text n m at_ l ad->Out X r aq R (q x (i+1))->K' (.int .i64 x) ad):ae K 168 [.box r 0] U (ag K' (aa R)) :=
 PN S.A.box S.hi (fun x e hl ad A=>h x ad (S.jb A hl (by omega)) (by rw [e] at O; exact O)) fun e ad A=>O.bad _ (by rw [e]; rfl) _ (S.A.trans A)
theorem rL (S:Sk X aq r k i kind text n m at_ l U) (h1:bj X.L i w=true->∀ ad,Sk X aq r k (i+1) kind text n m at_ l ad->K' (.bool true) ad) (h2:bj X.L i w=false->∀ ad,Sk X aq r k i kind text n m at_ l ad->K' (.bool false) ad):ae K 100 [.box r 0,.str w] U (ag K' Kp) :=
 IB S.A.box S.hi w (fun e ad A=>h1 e ad (S.jb A (dw e) (by omega))) fun e ad A=>h2 e ad (S.jb (.mg S.A.box A) S.hi (by omega))
theorem SG (S:Sk X aq r k i kind text n m at_ l U) (h:∀ b ad,bj X.L i w=b->Sk X aq r k i kind text n m at_ l ad->K' (.bool b) ad) :
 (ar (some (9,1)) (some [AV.str []]) 1 false [(0,.str w)]).wp K U (fun v U=>ae K 105 [.box r 0,v] U (ag K' Kp)) Kp:=by
 rw [gp]
 refine ⟨by omega,?_⟩
 rw [eG (o:=0) (s:=1) rfl]
 refine ⟨⟨rfl,rfl,by simp [bN]⟩,?_⟩
 rw [ig]
 refine ⟨rfl,?_⟩
 refine MO (l:=[w]) S.A.box S.hi (by simp) fun aR e1=>?_
 exact h _ _ (by rw [AH]) (S.jb (.mg S.A.box e1) S.hi (by omega))
theorem ny {x:aK} (S:Sk X aq r k i kind text n m at_ l U) (h:∀ ad,Sk X aq r k i kind x n m at_ l ad->K' (.aH []) ad):(aF (some (false,1)) (.box k 1) (.str x) U).wp K U K' Kp:=by
 obtain ⟨ks,h1,h2,h3⟩:=S.M
 exact h1.Ae (fun kv=>⟨rfl,rfl,by simp [mf],rfl⟩) S.A fun ad M A=>h ad ⟨A,S.hi,ks,M,h2,h3⟩
theorem AM {x:Int} (S:Sk X aq r k i kind text n m at_ l U) (h:∀ ad,Sk X aq r k i x text n m at_ l ad->K' (.aH []) ad):(aF (some (false,1)) (.box k 0) (.int .u8 x) U).wp K U K' Kp:=by
 obtain ⟨ks,h1,h2,h3⟩:=S.M
 exact h1.Ae (fun kv=>⟨rfl,rfl,by simp [mf],rfl⟩) S.A fun ad M A=>h ad ⟨A,S.hi,ks,M,h2,h3⟩
theorem Ad {x:Int} (S:Sk X aq r k i kind text n m at_ l U) (h:∀ ad,Sk X aq r k i kind text x m at_ l ad->K' (.aH []) ad):(aF (some (false,1)) (.box k 2) (.int .i64 x) U).wp K U K' Kp:=by
 obtain ⟨ks,h1,h2,h3⟩:=S.M
 exact h1.Ae (fun kv=>⟨rfl,rfl,by simp [mf],rfl⟩) S.A fun ad M A=>h ad ⟨A,S.hi,ks,M,h2,h3⟩
theorem af6 {x:Int} (S:Sk X aq r k i kind text n m at_ l U) (h:∀ ad,Sk X aq r k i kind text n x at_ l ad->K' (.aH []) ad):(aF (some (false,1)) (.box k 3) (.int .i64 x) U).wp K U K' Kp:=by
 obtain ⟨ks,h1,h2,h3⟩:=S.M
 exact h1.Ae (fun kv=>⟨rfl,rfl,by simp [mf],rfl⟩) S.A fun ad M A=>h ad ⟨A,S.hi,ks,M,h2,h3⟩
theorem Jj {a:AV} {ns:List Nd} {j:Nat} (S:Sk X aq r k j kind text n m at_ l U) (hj:∀ ks,Mk aq U r k kind text n m at_ ks->eA true ks l->ks.length <= j->∃ ks',Mk aq U r k kind text n m at_ ks'/\eA true ks' l/\ks'.length+1 <= j) (hk:eA false [a] ns) (h:∀ ad,Sk X aq r k j kind text n m at_ (l++ns) ad->K' (.box k 0) ad) :
 (ar (some (87,1)) (some [AV.aY]) 1 false [(0,a)]).wp K U (fun v U=>ae K 103 [.box k 0,v] U (ag K' (aa R))) (aa R):=by
 have ha:a.dc=true/\au a=[a]:=by
  generalize hb:false=b at hk
  generalize hl:[a]=la at hk
  cases hk with
  | mk _ _=>cases hl; exact ⟨rfl,rfl⟩
  | nil=>cases hl
  | cons _ _=>cases hb
 rw [gp]
 refine ⟨by omega,?_⟩
 rw [eG (o:=0) (s:=1) rfl]
 refine ⟨⟨ha.1,by rw [ha.2]; rfl,by simp [bN]⟩,?_⟩
 rw [ig]
 rw [ha.2]
 refine ⟨rfl,?_⟩
 obtain ⟨ks0,g1,g2,g3⟩:=S.M
 obtain ⟨ks,h1,h2,h3⟩:=hj ks0 g1 g2 g3
 have:=X.small
 have hi:=S.hi
 refine Y6 (l2:=[a]) h1 S.A (by omega) rfl (by omega) fun ad M A=>?_
 exact h ad ⟨A,S.hi,_,M,h2.snoc hk,by simp; omega⟩
theorem iB {p:PR (List Nd)} {q:List Nd->Nat->PR (List Nd)} (S:Sk X aq r k i kind text n m at_ l U) (C:Ct X f i p) (hp:Gd X.L.length (i+1) i p) (O:Out X r aq R (p.bind q))
 (h:∀ ns j ad,j <= X.L.length->i < j->Sk X aq r k j kind text n m at_ (l++ns) ad->Out X r aq R (q ns j)->K' (.box k 0) ad) :
 ae K f [.box r 0] U (ag (fun v U=>(ar (some (87,1)) (some [AV.aY]) 1 false [(0,v)]).wp K U (fun v U=>ae K 103 [.box k 0,v] U (ag K' (aa R))) (aa R)) (aa R)):=by
 refine C r U _ S.A.box ⟨fun ns j e hj a ad hk A=>?_,fun j e ad A=>O.bad j (by rw [e]; rfl) ad (S.A.trans A)⟩
 rw [e] at hp O
 have fP:i < j:=hp.1
 have S1:=S.jb A hj (by omega)
 refine Jj S1 (fun ks _ _ _=>?_) hk fun a7 S2=>h ns j a7 hj fP S2 O
 obtain ⟨ks,h1,h2,h3⟩:=S.M
 exact ⟨ks,h1.jb A S.A.box,h2,by omega⟩
theorem eI (S:Sk X aq r k i kind text n m at_ l U) (O:Out X r aq R (.ok (node kind text n m at_ l) i)):ak R (.box k 0) U:=by
 obtain ⟨ks,h1,h2,h3⟩:=S.M
 exact h1.done h2 S.A fun a ad hk A=>O.ok _ _ rfl S.hi a ad hk A
theorem Dl:aa (ag K' Kp)=Kp:=rfl
theorem GS {kM:FuncId} (he:eX K.P kM=true) {c:List AV}:(iN K.P (.func (.func kM) [.box r 0] []) []).wp K U K' Kp=ae K kM [.box r 0] U (ag K' Kp):=by
 simp [iN,he]
theorem Ee {one:Nat->PR (List Nd)} {kM:FuncId} (he:eX K.P kM=true) (C:∀ i,i <= X.L.length->Ct X kM i (one i)) (hg:∀ i,i <= X.L.length->Gd X.L.length (i+1) i (one i))
 {fu:Nat} (hf:X.L.length - i <= fu) (h0:0 < fu) {q:List Nd->Nat->PR (List Nd)} (S:Sk X aq r k i kind text n m at_ l U) (O:Out X r aq R ((jT X.L one fu i).bind q))
 (h:∀ ns j ad,j <= X.L.length->i < j->Sk X aq r k j kind text n m at_ (l++ns) ad->Out X r aq R (q ns j)->K' (.aH []) ad):ae K 106 [.box r 0,.box k 0,.func (.func kM) [.box r 0] []] U (ag K' (aa R)):=by
 refine F3 ?_
 unfold Ja
 rw [GS he (c:=[])]
 have e:(jT X.L one fu i).bind q=(one i).bind fun a j=>(mN X.L one fu a j).bind q:=by
  unfold jT; cases one i <;> rfl
 rw [e] at O
 simp only [Dl]
 refine iB S (C i S.hi) (hg i S.hi) O fun ns j aR hj fP S1 O1=>?_
 refine ⟨fun mm v0 v1 v2 ad=>∃ acc j f',mm=X.L.length - j/\v0=.box r 0/\v1=.box k 0/\v2=.func (.func kM) [.box r 0] []/\j <= X.L.length/\i < j/\X.L.length - j < f'/\Sk X aq r k j kind text n m at_ (l++acc) ad/\Out X r aq R ((mN X.L one f' acc j).bind q),
  ⟨_,ns,j,fu,rfl,rfl,rfl,rfl,hj,fP,by omega,S1,O1⟩,?_⟩
 rintro mm v0 v1 v2 a7 ⟨acc,j2,f',rfl,rfl,rfl,rfl,rV,xx,HL,S2,O2⟩
 cases f' with
 | zero=>omega
 | succ f' =>
   unfold mN at O2
   refine rL S2 (fun hw bO S3=>?_) (fun hw bO S3=>?_)
   . simp only [bE]
     rw [if_pos hw] at O2
     have aQ:=dw hw
     rw [GS he (c:=[])]
     have e2:((one (j2+1)).bind fun b j=>mN X.L one f' (acc++b) j).bind q=(one (j2+1)).bind fun b j=>(mN X.L one f' (acc++b) j).bind q:=by
      cases one (j2+1) <;> rfl
     rw [e2] at O2
     refine iB S3 (C _ aQ) (hg _ aQ) O2 fun ns3 j3 cG hj3 afd S4 O4=>?_
     refine ⟨_,?_,acc++ns3,j3,f',rfl,rfl,rfl,rfl,hj3,by omega,by omega,by rw [<- gn]; exact S4,O4⟩
     omega
   . simp only [bm]
     rw [if_neg (by rw [hw]; simp)] at O2
     exact ak.mk (h acc j2 bO rV xx S3 O2)
end
end Go.Rip
