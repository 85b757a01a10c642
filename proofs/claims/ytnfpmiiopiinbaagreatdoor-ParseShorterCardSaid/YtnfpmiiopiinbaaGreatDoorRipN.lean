/- Lemmas for the proof: no conditions. -/
import Derived.Test.YtnfpmiiopiinbaaGreatDoorRipZz
import Derived.Test.YtnfpmiiopiinbaaGreatDoorRipM
import Derived.Test.YtnfpmiiopiinbaaGreatDoorRipF
import Derived.Test.YtnfpmiiopiinbaaGreatDoorRipG
import Derived.Test.YtnfpmiiopiinbaaGreatDoorRipH
import Derived.Test.YtnfpmiiopiinbaaGreatDoorRipE
set_option linter.unusedVariables false
set_option linter.unusedSimpArgs false
set_option linter.loopingSimpArgs false
namespace Go.Rip
open Go.RowKit
structure Rx where
 L:List Tk
 E:Nat
 tv:AV
 tr:eP tv L.length (jI L)
 ok:∀ t ∈ L,kh t
 small:L.length <= 900
def rd (X:Rx) (i:Nat):List AV:=[X.tv,.int .i64 i,.int .i64 X.E,zR,se]
def Ld (X:Rx) (i:Nat):AV:=.iface 136 (.agg [.int .i64 (dc X.L X.E i)])
theorem eP.len {v:AV} {n:Nat} {cs:List AV} (h:eP v n cs):cE (some false) v=.val (.int .i64 n):=by
 rcases h with ⟨rfl,rfl,rfl⟩ | ⟨c,rfl⟩ <;> rfl
theorem eP.at {v:AV} {n:Nat} {cs:List AV} (h:eP v n cs) {sz e j:Nat} (hj:j < n):∃ c,v=.vec n c cs/\aO (some (e,sz)) none v (.int .i64 (j:Int))=.cond (0 <= (j:Int)/\(j:Int) < n) (.val (.cQ (cs.drop (j * sz)))):=by
 rcases h with ⟨rfl,rfl,rfl⟩ | ⟨c,rfl⟩
 . omega
 . exact ⟨c,rfl,by simp⟩
theorem Be:∀ i,closed (K.zn i)=true:=fun i=>by
 show closed (if i=0 then .cQ wq else if i=7 then .cQ xe else .any)=true
 split
 . kernel_rfl
 . split
   . kernel_rfl
   . rfl
theorem Pure.of {f:Nat} {args:List AV} {x:AV} (hargs:cT args=true) (hx:closed x=true) (hr:∀ U,resolve 5 U x=x)
 (h:∀ R:cY->St->Prop,(∀ ad,R (.ret x) ad)->ae K f args (bV ⟨.e,0⟩) R):Pure K f args x :=
 Pure.AN Be hargs hx 5 (h _ fun ad=>⟨x,rfl,hr ad⟩)
def idx (l:List aG) (s:aG):Int:=match l.findIdx? (·=s) with | some i=>i | none=>-1
theorem Nq (c:mg) (l:List aG) (s:aG) (hn:l.length <= 100000):Pure K 230 [.vec l.length c (l.map .str),.str s] (.int .i64 (idx l s)):=by
 intro U R hR
 refine SH ?_
 simp only [SG,ua,aj]
 refine ⟨fun m v0 v1 v7 v8 ad=>∃ i:Nat,m=l.length - i/\i <= l.length/\v0=.vec l.length c (l.map .str)/\v1=.str s/\v7=.int .i64 l.length/\v8=.int .i64 i/\ad=U/\∀ j,j < i->l[j]? ≠ some s,⟨l.length,0,by simp [Fn.app]⟩,?_⟩
 intro m v0 v1 v7 v8 ad hI
 obtain ⟨i,rfl,hi,rfl,rfl,rfl,rfl,rfl,jC⟩:=hI
 simp only [cq,aj,ca]
 refine ⟨fun aQ=>?_,fun lI=>?_⟩
 . have aQ:i < l.length:=by omega
   have hd:(l.map AV.str).drop (i * 1)=.str l[i]::(l.map AV.str).drop (i+1):=by
    rw [Nat.mul_one,ib (by simpa using aQ)]; simp
   simp only [yX,wp_cond,aj,jH,hd,vn,dF,ln,ca]
   refine ⟨by omega,fun he=>?_,fun cr=>?_⟩
   . refine al.eq hR ?_
     have:l.findIdx? (·=s)=some i:=by
      rw [Jp]
      refine ⟨aQ,by simp [he],fun j hj=>?_⟩
      have:=jC j hj
      rw [pU (by omega)] at this
      simpa using this
     simp [idx,this]
   . simp only [mI,ij,wp_cond,aj]
     refine ⟨bK (by omega) (by omega),?_⟩
     refine ⟨l.length - (i+1),by omega,i+1,rfl,by omega,rfl,rfl,rfl,by simp,rfl,fun j hj=>?_⟩
     . rcases kO j i with h | h
       . exact jC j h
       . have:j=i:=by omega
         subst this
         rw [pU aQ]; simpa using fun h=>cr h.symm
 . refine al.eq hR ?_
   have:l.findIdx? (·=s)=none:=by
    rw [List.findIdx?_eq_none_iff]
    intro x hx
    obtain ⟨j,hj,rfl⟩:=List.getElem_of_mem hx
    have:=jC j (by omega)
    rw [pU hj] at this
    simpa using this
   simp [idx,this]
section
variable {X:Rx} {r i:Nat} {U:St} {R:cY->St->Prop}
theorem Jn (hr:U.box r=some (rd X i)) (h:R (.ret (.int .i64 (dc X.L X.E i))) U):ae K 164 [.box r 0] U R:=by
 refine R4 ?_
 simp only [R3,bN,aJ,aZ,ld hr,rd,List.drop,dF,X.tr.len,cq,ca,aj,df]
 refine ⟨fun aQ=>?_,fun lI=>?_⟩
 . have aQ:i < X.L.length:=by omega
   obtain ⟨c,hv,tB⟩:=X.tr.at (sz:=3) (e:=51) aQ
   obtain ⟨t,ht⟩:∃ t,X.L[i]?=some t:=⟨X.L[i],by simp [aQ]⟩
   obtain ⟨rest,hd⟩:=EP ht
   simp only [tB,mQ,aJ,hd,dJ,vn,qh,gE,jY,List.drop,dF]
   refine ⟨by omega,al.mk ?_⟩
   have:dc X.L X.E i=t.at_:=by simp [dc,ht]
   rw [<- this]; exact h
 . refine al.mk ?_
   have:dc X.L X.E i=X.E:=by simp [dc,ym (show X.L.length <= i by omega)]
   rw [<- this]; exact h
def rV:Option Tk->List AV
 | some t=>qh t
 | none=>[.int .u8 0,.str [],.int .i64 0]
theorem qE (hr:U.box r=some (rd X i)) (hi:i <= X.L.length) (k:Nat) (hk:k <= 10) (h:∀ ad,dm U ad->R (.ret (.agg (rV X.L[i+k]?))) ad):ae K 167 [.box r 0,.int .i64 k] U R:=by
 refine R8 ?_
 have hs:=X.small
 simp only [R7,kV]
 intro b hb
 have Lu:=hb.bX hr
 have Iz:(U.new b (.box [AV.int .u8 0,AV.str [],AV.int .i64 0])).box r=some (rd X i):=by rw [pB Lu]; exact hr
 have jM:(U.new b (.box [AV.int .u8 0,AV.str [],AV.int .i64 0])).box b=some [AV.int .u8 0,AV.str [],AV.int .i64 0]:=aK
 simp only [NV.at,bN,aJ,aZ,ld Iz,rd,List.drop,dF,X.tr.len,mI,ij,mQ,cq,ca,aj,df]
 refine ⟨bK (by omega) (by omega),fun aQ=>?_,fun lI=>?_⟩
 . have aQ:i+k < X.L.length:=by omega
   obtain ⟨c,hv,tB⟩:=X.tr.at (sz:=3) (e:=51) aQ
   obtain ⟨t,ht⟩:∃ t,X.L[i+k]?=some t:=⟨X.L[i+k],by simp [aQ]⟩
   obtain ⟨rest,hd⟩:=EP ht
   rw [<- Int.natCast_add]
   simp only [tB,mQ,aJ,hd,NL,Ah jM,wp_cond,mF]
   refine ⟨bK (by omega) (by omega),by omega,by simp [qh],by simp [qh],?_⟩
   rw [vW (Qe (a7) 3 0)]
   refine ⟨by simp [aA,qh],?_⟩
   refine al.eq (h _ (((dm.refl U).new hb).set hb.1)) ?_
   simp [aA,qh,ht,rV]
 . simp only [ek,gI,aj,Ah jM,wp_cond,mF]
   refine ⟨by simp,?_⟩
   rw [vW (Qe (a7) 3 0)]
   refine ⟨by simp [aA],?_⟩
   refine al.eq (h _ (((dm.refl U).new hb).set hb.1)) ?_
   simp [aA,ym (show X.L.length <= i+k by omega),rV]
def vY (o:Option Tk) (l:List aG):Bool:=match o with
 | some t=>(t.k == 3 || t.k == 4) && decide (t.s ∈ l)
 | none=>false
theorem Np (l:List aG) (s:aG):decide (0 <= idx l s)=decide (s ∈ l):=by
 unfold idx
 split
 . rename_i j hj
   obtain ⟨h1,h2,_⟩:=Jp.1 hj
   have:s ∈ l:=by have:=of_decide_eq_true h2; exact this ▸ List.getElem_mem h1
   simp [this]
 . rename_i hj
   rw [List.findIdx?_eq_none_iff] at hj
   have:s ∉ l:=fun hm=>by simpa using hj s hm
   simp [this]
theorem GH (c:mg) (l:List aG) (s:aG) (hn:l.length <= 100000):Pure K 178 [.vec l.length c (l.map .str),.str s] (.bool (decide (s ∈ l))):=by
 intro U R hR
 refine Sc ?_
 refine (Nq c l s hn).go ?_
 simp only [iq,aj]
 refine al.eq hR ?_
 rw [Np]
theorem B7 {c:mg} (o:Option Tk) (l:List aG) (hn:l.length <= 100000) (h:∀ ad,dm U ad->R (.ret (.bool (vY o l))) ad):ae K 121 [.agg (rV o),.vec l.length c (l.map .str)] U R:=by
 refine Rh ?_
 have hl:∃ k s a,rV o=[.int .u8 k,.str s,.int .i64 a]/\vY o l=((decide (k=3) || decide (k=4)) && decide (s ∈ l)):=by
  cases o with
  | none=>exact ⟨0,[],0,rfl,rfl⟩
  | some t=>exact ⟨t.k,t.s,t.at_,rfl,by
     have e:∀ m:Nat,(t.k == m)=decide ((t.k:Int)=(m:Int)):=fun m=>by
      rw [pW]; simp; omega
     simp only [vY,e 3,e 4]; rfl⟩
 obtain ⟨k,s,a,e1,e2⟩:=hl
 rw [e1]
 simp only [Rf,Fb _ (UT _),wp_cond,true_and,Fe,kV]
 intro b_ hb
 have jM:(U.new b_ (.box [.int .u8 k,.str s,.int .i64 a])).box b_=some [.int .u8 k,.str s,.int .i64 a]:=aK
 have hx:=h _ ((dm.refl U).new (x:=.box [.int .u8 k,.str s,.int .i64 a]) hb)
 rw [e2] at hx
 simp only [NV.at,aZ,aj,ld jM,List.drop,dF,bu,bj,aP,rE,df]
 have PE:=GH c l s hn
 have step:∀ b:Bool,((decide (k=3) || decide (k=4)) && decide (s ∈ l))=b->al R (.bool b) (U.new b_ (.box [.int .u8 k,.str s,.int .i64 a])):=fun b e=>by subst e; exact al.mk hx
 by_cases h3:k=3
 . subst h3
   simp [ld jM]
   exact ⟨_,PE,step _ (by simp)⟩
 . by_cases h4:k=4
   . subst h4
     simp [ld jM]
     exact ⟨_,PE,step _ (by simp)⟩
   . simp [ld jM,h3,h4]
     exact step _ (by simp [h3,h4])
theorem Kc (s w:aG):decide (s ∈ [w])=(s == w):=by
 by_cases h:s=w
 . simp [h]
 . simp [h]
theorem AO (L:List Tk) (i:Nat) (w:aG):vY L[i]? [w]=bf L i w:=by
 unfold vY bf
 split
 . rename_i t ht; rw [ht,Kc]
 . rename_i ht; rw [ht]
theorem Nw {c:mg} (hr:U.box r=some (rd X i)) (hi:i <= X.L.length) (l:List aG) (hn:l.length <= 100000) (h:∀ ad,dm U ad->R (.ret (.bool (vY X.L[i]? l))) ad):ae K 105 [.box r 0,.vec l.length c (l.map .str)] U R:=by
 refine Q5 ?_
 refine qE hr hi 0 (by omega) fun aR e1=>?_
 refine B7 (X.L[i]?) l hn fun bh e2=>?_
 exact al.mk (h _ (e1.trans e2))
theorem I9 (hr:U.box r=some (rd X i)) (hi:i <= X.L.length) (w:aG)
 (h1:bf X.L i w=true->∀ ad,gT r (rd X (i+1)) U ad->R (.ret (.bool true)) ad) (h2:bf X.L i w=false->∀ ad,dm U ad->R (.ret (.bool false)) ad):ae K 100 [.box r 0,.str w] U R:=by
 refine QY ?_
 have hs:=X.small
 simp only [QX,ar,gI,Ff,UW,bO,wp_cond,aj,aA,List.take,List.drop,jY,gE,gD]
 refine ⟨by omega,by simp,by simp,?_⟩
 refine Nw (l:=[w]) hr hi (by simp) fun aR e1=>?_
 have Iz:=e1.bg hr
 simp only [bE,eI,aj,AO]
 cases hw:bf X.L i w with
 | false=>simp only [fD,bG]; exact al.mk (h2 hw _ e1)
 | true =>
   simp only [du,bp,bN,aj,aZ,ld Iz,rd,List.drop,dF,df,mI,ij,wp_cond,Ah Iz,mF]
   refine ⟨bK (by omega) (by omega),by simp,al.mk (h1 hw _ ⟨?_,(e1.HN (r:=r)).set (.inr rfl)⟩)⟩
   rw [a7]; simp [aA,rd]
theorem Lc (hr:U.box r=some (rd X i)) (h:R (.panic (Ld X i)) U):ae K 166 [.box r 0] U R:=by
 refine R6 ?_
 refine Jn hr ?_
 simp only [bE,ek,gI,OT,UU,wp_cond,aj,aA,x9,if_true,uG,Wa]
 refine ⟨by simp,?_⟩
 exact h
theorem Ez (hr:U.box r=some (rd X i)) (hi:i <= X.L.length) (w:aG)
 (h1:bI X.L w i=.ok () (i+1)->i+1 <= X.L.length->∀ ad,gT r (rd X (i+1)) U ad->R (.ret (.aH [])) ad) (h2:bI X.L w i=.bad i->∀ ad,gT r (rd X i) U ad->R (.panic (Ld X i)) ad):ae K 102 [.box r 0,.str w] U R:=by
 refine Q0 ?_
 refine I9 hr hi w (fun hw aR a1=>?_) (fun hw aR e1=>?_)
 . simp only [bE,eI,aj,du,bp]
   exact al.mk (h1 (by simp [bI,hw]) (dw hw) _ a1)
 . simp only [bE,eI,aj,fD,bG]
   exact Lc (e1.bg hr) (h2 (by simp [bI,hw]) _ (.mW hr e1))
theorem vG (o:Option Tk):∃ k:Int,∃ s a,rV o=[.int .u8 k,.str s,.int .i64 a]/\(∀ m:Nat,0 < m->(k=(m:Int) ↔ ∃ t,o=some t/\t.k=m/\t.s=s)):=by
 cases o with
 | none=>exact ⟨0,[],0,rfl,fun m hm=>⟨fun h=>by omega,fun ⟨t,h,_⟩=>by cases h⟩⟩
 | some t=>exact ⟨t.k,t.s,t.at_,rfl,fun m hm=>⟨fun h=>⟨t,rfl,by omega,rfl⟩,fun ⟨u,h,h2,h3⟩=>by cases h; omega⟩⟩
theorem Qz (hr:U.box r=some (rd X i)) (hi:i <= X.L.length) (k:Nat) (hk:0 < k)
 (h1:∀ t,X.L[i]?=some t->t.k=k->i+1 <= X.L.length->∀ ad,gT r (rd X (i+1)) U ad->R (.ret (.str t.s)) ad) (h2:(∀ t,X.L[i]?=some t->t.k ≠ k)->∀ ad,gT r (rd X i) U ad->R (.panic (Ld X i)) ad):ae K 165 [.box r 0,.int .u8 k] U R:=by
 refine R5 ?_
 have hs:=X.small
 refine qE hr hi 0 (by omega) fun aR e1=>?_
 have Iz:=e1.bg hr
 obtain ⟨m,s,a,e,hm⟩:=vG X.L[i+0]?
 rw [e]
 simp only [bE,kV]
 intro b hb
 have Lu:=hb.bX Iz
 have e2:=e1.new (x:=.box [AV.int .u8 0,AV.str [],AV.int .i64 0]) hb
 have jM:(aR.new b (.box [AV.int .u8 0,AV.str [],AV.int .i64 0])).box b=some [AV.int .u8 0,AV.str [],AV.int .i64 0]:=aK
 simp only [NV.at,Ah jM,wp_cond,mF]
 refine ⟨by simp,?_⟩
 have e3:=e2.set (x:=.box (aA [AV.int .u8 0,AV.str [],AV.int .i64 0] 0 (ax (.agg [.int .u8 m,.str s,.int .i64 a])))) (e1.fresh hb.1)
 generalize p8:(aR.new b (.box [AV.int .u8 0,AV.str [],AV.int .i64 0])).set b (.box (aA [AV.int .u8 0,AV.str [],AV.int .i64 0] 0 (ax (.agg [.int .u8 m,.str s,.int .i64 a]))))=bW at e3 ⊢
 have lu:bW.box b=some [.int .u8 m,.str s,.int .i64 a]:=by rw [<- p8,a7]; rfl
 have yU:=e3.bg hr
 intro j hj
 simp only [aZ,aj,ld lu,List.drop,dF,df,dS,av,Bool.not_eq_true',decide_eq_false_iff_not,Bool.not_eq_false',ee]
 refine ⟨fun cr=>?_,fun heq=>?_⟩
 . refine Lc yU ?_
   exact h2 (fun t ht he=>cr ((hm k hk).2 ⟨t,ht,he,by rw [Nat.add_zero,ht] at e; cases e; rfl⟩)) _ (.mW hr e3)
 . obtain ⟨t,ht,qO,zA⟩:=(hm k hk).1 heq
   have aQ:=(dC.1 ht).1
   refine hj _ _ _ ?_
   simp only [bN,aj,aZ,ld yU,rd,List.drop,dF,df,mI,ij,wp_cond,Ah yU,mF]
   refine ⟨bK (by omega) (by omega),by simp,?_⟩
   rw [mF]
   generalize II:bW.set r _=cN
   have iw:cN.box b=some [.int .u8 m,.str s,.int .i64 a]:=by rw [<- II,aY (Ne.symm Lu)]; exact lu
   have hr4:cN.box r=some (rd X (i+1)):=by rw [<- II,a7]; simp [aA,rd]
   have e4:lj r U cN:=by rw [<- II]; exact (e3.HN (r:=r)).set (.inr rfl)
   simp only [ld iw,List.drop,dF,aj]
   refine al.mk ?_
   rw [<- zA]
   exact h1 t ht qO aQ _ ⟨hr4,e4⟩
theorem YB (hr:U.box r=some (rd X i)) (hi:i <= X.L.length)
 (h1:∀ x,gx X.L i=.ok x (i+1)->i+1 <= X.L.length->∀ ad,gT r (rd X (i+1)) U ad->R (.ret (.str x)) ad) (h2:gx X.L i=.bad i->∀ ad,gT r (rd X i) U ad->R (.panic (Ld X i)) ad):ae K 101 [.box r 0] U R:=by
 refine QZ ?_
 refine Qz hr hi 1 (by omega) (fun t ht hk hl aR a1=>?_) (fun hn aR a1=>?_)
 . exact al.mk (h1 t.s (by simp [gx,ht,hk]) hl _ a1)
 . refine h2 ?_ _ a1
   unfold gx
   split
   . rename_i t ht; rw [if_neg (hn t ht)]
   . rfl
end
end Go.Rip
namespace Go.Rip
open Go.Proofs Go.RowKit
theorem Pure.Qw {f:FuncId} {args:List AV} {vs:List Value} {x:AV} {v:Value} (hargs:∀ g us,aD g args us->us=vs) (hx:∀ g,ay g x v)
 (h:∀ w,Calls K.P f vs.toArray w fun e w'=>e=.returned v/\w.grownBy w' none):Pure K f args x:=by
 intro U R hR g w us hs hG ha
 have:=hargs g us ha
 subst this
 refine callsIn_wide.2 ((h w).mono fun e w' ⟨h1,h2⟩=>?_)
 subst h1
 exact ⟨g,U,x,Gh.Le.refl g,hs.grow h2,hx g,hR⟩
theorem J8 (w:World) (e:TypeId) (s:ByteArray):w.grownBy (Lib.bytesWorld w e s) none:=by
 have cr:∀ q,q < w.heap.size->w.heap.size ≠ q:=fun q h=>by omega
 unfold Lib.bytesWorld World.freeze
 split
 . exact ⟨rfl,rfl,rfl,by simp [World.alloc,World.drew,-World.alloc_eq,-World.drew_eq],fun q hq _=>by simp [World.alloc,World.drew,-World.alloc_eq,-World.drew_eq,Array.getElem?_push,Nat.ne_of_lt hq]⟩
 . refine ⟨rfl,rfl,rfl,by simp [World.alloc,World.drew,-World.alloc_eq,-World.drew_eq],fun q hq _=>?_⟩
   simp [World.alloc,World.drew,-World.alloc_eq,-World.drew_eq,Array.getElem?_modify,Array.getElem?_push,cr q hq,Nat.ne_of_lt hq]
theorem OC (s:aG) (h0:s ≠ []) (h:oW s=0):Pure K 218 [.str s] (.aH [.int .i64 (sd s),.dq]):=by
 obtain ⟨h1,h2,_⟩:=vw h0 h
 refine Pure.Qw (vs:=[.string ⟨s.toArray⟩]) (v:=.tuple #[.int .i64 (sd s),.nilIface]) (fun g us hr=>Vg hr) (fun g=>by simp [ay,aD]) fun w=>?_
 refine (Tryz.strconv_Atoi ⟨s.toArray⟩ (sd s) (by show s.toArray.size <= 18; simp; omega) (TJ h0 (AM h).1) w).mono fun e w' ⟨he,t,hw⟩=>⟨he,?_⟩
 subst hw
 exact J8 _ _ _
section
variable {X:Rx} {r i:Nat} {U:St} {R:cY->St->Prop}
theorem Qu (hr:U.box r=some (rd X i)) (hi:i <= X.L.length)
 (h1:∀ x,iC X.L i=.ok x (i+1)->i+1 <= X.L.length->∀ ad,gT r (rd X (i+1)) U ad->R (.ret (.int .i64 x)) ad) (h2:iC X.L i=.bad i->∀ ad,gT r (rd X i) U ad->R (.panic (Ld X i)) ad):ae K 168 [.box r 0] U R:=by
 refine R9 ?_
 refine Qz hr hi 2 (by omega) (fun t ht hk hl aR a1=>?_) (fun hn aR a1=>?_)
 . have cO:=X.ok t (gr ht)
   refine (OC t.s cO.1 (ED cO hk)).go ?_
   simp only [bD,List.drop,dF,aj,aw,if_true]
   intro j hj
   simp only [and_self,if_true,aj,bp]
   exact hj _ _ (al.mk (h1 _ (by simp [iC,ht,hk]) hl _ a1))
 . refine h2 ?_ _ a1
   unfold iC
   split
   . rename_i t ht; rw [if_neg (hn t ht)]
   . rfl
def mw (kind:Int) (text:aG) (n m at_:Int) (kv:AV):List AV:=[.int .u8 kind,.str text,.int .i64 n,.int .i64 m,.int .i64 at_,.int .i64 0,kv]
def Grow (U:St) (v:AV) (e:TypeId) (sz n:Nat) (l:List AV):Prop:=(n=0/\l=[]/\v=.aq)\/∃ τ,v=.vec n (.own τ) l/\U.tok τ=some ⟨n,e,sz⟩/\l.length=n * sz
def Zn (au:St) (v:AV):Prop:=∀ n τ l,v=.vec n (.own τ) l->au.live τ=none
theorem DY {e sz n m:Nat} {v y:AV} {l l2:List AV} {K':AV->St->Prop} {Kp:AV->St->Prop} (hg:Grow U v e sz n l) (hy:rI U y=some (m,l2)) (hl:l2.length=m * sz) (hm:0 < m) (hb:n+m <= 4294967296) (h0:n=0->v=.aq)
 (h:∀ ad v',Grow ad v' e sz (n+m) (l++l2)->(∀ b x,(∀ n l,v ≠ .vec n (.own b) l)->U.live b=some x->ad.live b=some x)->(∀ n τ l,v'=.vec n (.own τ) l->U.live τ=none\/∃ n l,v=.vec n (.own τ) l)->K' v' ad):(eR (some (e,sz)) false v y U).wp K U K' Kp:=by
 rcases hg with ⟨rfl,rfl,rfl⟩ | ⟨τ,rfl,ht,Ik⟩
 . have PI:m ≠ 0:=by omega
   simp only [eR,hy,if_neg PI,bQ,if_false,wp_cond]
   refine ⟨hl,by omega,fun b fC=>?_⟩
   refine h _ _ (.inr ⟨b,by simp [NV.at],by rw [df]; exact DR,by simp [hl]⟩) (fun c x hc hx=>(bB fC) c x hx) fun n τ l hv=>?_
   simp only [NV.at,AV.vec.injEq,mg.own.injEq] at hv
   exact .inl (hv.2.1 ▸ fC.1)
 . have C4:n ≠ 0:=fun e=>by have:=h0 e; cases this
   simp only [eR,hy,wp_cond]
   refine ⟨hl,⟨ht,Ik,hb⟩,fun b fC=>?_⟩
   refine h _ _ (.inr ⟨b,rfl,DR,by simp [hl,Ik,Nat.add_mul]⟩) (fun c x hc hx=>?_) fun n' vL l' hv=>?_
   . refine (bB fC) c x ?_
     have cr:c ≠ τ:=fun e=>hc n l (by rw [e])
     show (U.del τ).live c=some x
     rw [kJ,if_neg cr]; exact hx
   . simp only [NV.at,AV.vec.injEq,mg.own.injEq] at hv
     have hf:=fC.1
     rw [<- hv.2.1]
     by_cases e:b=τ
     . subst e; exact .inr ⟨_,_,rfl⟩
     . left
       have:(U.del τ).live b=none:=hf
       rw [kJ,if_neg e] at this; exact this
structure Mk (au U:St) (r k:Nat) (kind:Int) (text:aG) (n m at_:Int) (ks:List AV):Prop where
 box:∃ kv,U.box k=some (mw kind text n m at_ kv)/\Grow U kv 87 1 ks.length ks/\Zn au kv/\(ks=[]->kv=.aq)
 new:au.live k=none
 ne:k ≠ r
inductive eE:Bool->List AV->List Nd->Prop
 | mk {kind:Int} {text:aG} {n m at_:Int} {kv:AV} {ks:List AV} {l:List Nd}:eE true ks l->(ks=[]/\kv=.aq\/∃ c,kv=.vec ks.length c ks)->eE false [.cQ (mw kind text n m at_ kv)] (node kind text n m at_ l)
 | nil:eE true [] []
 | cons {a:AV} {ks:List AV} {l l':List Nd}:eE false [a] l->eE true ks l'->eE true (a::ks) (l++l')
theorem eE.snoc {ks:List AV} {l:List Nd} {a:AV} {l':List Nd} (h:eE true ks l) (k:eE false [a] l'):eE true (ks++[a]) (l++l'):=by
 generalize hb:true=b at h
 induction h with
 | mk _ _ _=>cases hb
 | nil=>simpa using eE.cons k eE.nil
 | cons h1 h2 _ ih=>rw [gi]; exact .cons h1 (ih rfl)
theorem eE.one {a:AV} {l:List Nd} (k:eE false [a] l):eE true [a] l:=by simpa using eE.cons k eE.nil
section
variable {X:Rx} {r i j k:Nat} {au U ad:St} {R:cY->St->Prop} {kind:Int} {text:aG} {n m at_:Int} {ks:List AV}
theorem Mk.jo {l:List AV} (M:Mk au U r k kind text n m at_ ks) (a:gT r l U ad) {l':List AV} (hr:U.box r=some l'):Mk au ad r k kind text n m at_ ks:=by
 obtain ⟨kv,h1,h2,h3,h4⟩:=M.box
 refine ⟨⟨kv,a.ex.bg M.ne h1,?_,h3,h4⟩,M.new,M.ne⟩
 rcases h2 with h2 | ⟨τ,e,ht,hl⟩
 . exact .inl h2
 . exact .inr ⟨τ,e,a.ex.tok (eZ hr ht).symm ht,hl⟩
theorem Mk.Ah (M:Mk au U r k kind text n m at_ ks) {o w:Nat} {v:AV} {WZ:Int} {XF:aG} {n' m' aaK:Int} {K':AV->St->Prop} {Kp:AV->St->Prop} {t:Bool}
 (hs:∀ kv,v.dh=true/\(ax v).length=w/\o+w <= (mw kind text n m at_ kv).length/\aA (mw kind text n m at_ kv) o (ax v)=mw WZ XF n' m' aaK kv)
 {L:List AV} (A:gT r L au U)
 (h:∀ ad,Mk au ad r k WZ XF n' m' aaK ks->gT r L au ad->K' (.aH []) ad):(aI (some (t,w)) (.box k o) v U).wp K U K' Kp:=by
 obtain ⟨kv,h1,h2,h3,h4⟩:=M.box
 obtain ⟨s1,s2,s3,s4⟩:=hs kv
 rw [dk h1,s4]
 refine ⟨⟨s1,s2,s3⟩,h _ ⟨⟨kv,a7,?_,h3,h4⟩,M.new,M.ne⟩ ⟨by rw [aY M.ne.symm]; exact A.box,A.ex.set (.inl M.new)⟩⟩
 rcases h2 with h2 | ⟨τ,e,ht,hl⟩
 . exact .inl h2
 . exact .inr ⟨τ,e,by rw [gY (eZ h1 ht).symm]; exact ht,hl⟩
theorem YS (hr:U.box r=some (rd X i)) (kind:Int) (h:∀ k ad,Mk U ad r k kind [] 0 0 (dc X.L X.E i) []->gT r (rd X i) U ad->R (.ret (.box k 0)) ad):ae K 99 [.box r 0,.int .u8 kind] U R:=by
 refine VD ?_
 refine Jn hr ?_
 refine pM [.int .u8 kind,.str [],.int .i64 0,.int .i64 0,.int .i64 (dc X.L X.E i),.int .i64 0] rfl ?_
 refine pM (mw kind [] 0 0 (dc X.L X.E i) .aq) rfl ?_
 rw [hU rfl]
 intro b hb
 exact al.mk (h b _ ⟨⟨_,aK,.inl ⟨rfl,rfl,rfl⟩,(fun _ _ _ e=>by cases e),fun _=>rfl⟩,hb.1,(hb.bX hr).symm⟩ (.mW hr ((dm.refl U).new hb)))
theorem Mt {L:List AV} {mm:Nat} {c:mg} {l2:List AV} (M:Mk au U r k kind text n m at_ ks) (A:gT r L au U) (hm:0 < mm) (hl:l2.length=mm) (hb:ks.length+mm <= 4294967296)
 (h:∀ ad,Mk au ad r k kind text n m at_ (ks++l2)->gT r L au ad->al R (.box k 0) ad):ae K 103 [.box k 0,.vec mm c l2] U R:=by
 refine Q2 ?_
 obtain ⟨kv,h1,h2,h3,h4⟩:=M.box
 simp only [Q1,bN,aj,aZ,gM h1,mw,List.drop,bC,df]
 refine DY h2 rfl (by simp [hl]) hm hb (fun e=>h4 (sw.1 e)) fun aR v' g1 e1 n1=>?_
 have k1:aR.box k=some (mw kind text n m at_ kv):=by
  cases e:U.live k with
  | none=>exact absurd e (cD h1)
  | some x =>
    have:=e1 k x (fun n' l' hv=>by
     rcases h2 with ⟨_,_,h2⟩ | ⟨τ,h2,ht,_⟩
     . rw [h2] at hv; cases hv
     . rw [h2] at hv; cases hv; exact eZ h1 ht rfl) e
    rw [dD (this.trans e.symm)]; exact h1
 have A1:gT r L au aR:=by
  have key:∀ b x,au.live b=some x->U.live b=some x->aR.live b=some x:=fun b x hx hy=>e1 b x (fun n' l' hv=>by rw [h3 _ _ _ hv] at hx; cases hx) hy
  refine ⟨?_,fun b x hbr hx=>key b x hx (A.ex b x hbr hx)⟩
  cases e:U.live r with
  | none=>exact absurd e (cD A.box)
  | some x =>
    have:=e1 r x (fun n' l' hv=>by
     rcases h2 with ⟨_,_,h2⟩ | ⟨τ,h2,ht,_⟩
     . rw [h2] at hv; cases hv
     . rw [h2] at hv; cases hv; exact eZ A.box ht rfl) e
    rw [dD (this.trans e.symm)]; exact A.box
 rw [dk k1]
 have cr:v' ≠ .aq:=by
  rcases g1 with ⟨h0,_,_⟩ | ⟨τ,e,_⟩
  . omega
  . rw [e]; simp
 have dh:v'.dh=true/\ax v'=[v']:=by
  rcases g1 with ⟨h0,_,_⟩ | ⟨τ,e,_⟩
  . omega
  . rw [e]; exact ⟨rfl,rfl⟩
 refine ⟨⟨dh.1,by rw [dh.2]; rfl,by simp [mw]⟩,(h _ ⟨⟨v',?_,?_,fun n' vL l' hv=>?_,fun e=>?_⟩,M.new,M.ne⟩ ⟨by rw [aY M.ne.symm]; exact A1.box,A1.ex.set (.inl M.new)⟩)⟩
 . rw [a7,dh.2]; rfl
 . rw [cM,hl]
   rcases g1 with h0 | ⟨τ,e,ht,hl⟩
   . exact .inl h0
   . exact .inr ⟨τ,e,by rw [gY (eZ k1 ht).symm]; exact ht,hl⟩
 . rcases n1 n' vL l' hv with hx | ⟨n2,l2',hx⟩
   . cases e:au.live vL with
     | none=>rfl
     | some x =>
       by_cases hrt:vL=r
       . subst hrt; exact absurd hx (cD A.box)
       . have:=A.ex vL x hrt e; rw [hx] at this; cases this
   . exact h3 _ _ _ hx
 . have:l2=[]:=(List.append_eq_nil_iff.1 e).2
   subst this; simp at hl; omega
theorem Zp {L:List AV} {mm:Nat} {c:mg} {l2:List AV} (M:Mk au U r k kind text n m at_ ks) (A:gT r L au U) (hm:0 < mm) (hl:l2.length=mm) (hb:ks.length+mm <= 4294967296)
 (h:∀ ad,Mk au ad r k kind text n m at_ (ks++l2)->gT r L au ad->R (.ret (.box k 0)) ad):ae K 103 [.box k 0,.vec mm c l2] U R:=Mt M A hm hl hb fun ad M A=>al.mk (h ad M A)
theorem Mk.done {l:List AV} {ns:List Nd} (M:Mk au U r k kind text n m at_ ks) (hk:eE true ks ns) (A:gT r l au U) (h:∀ a ad,eE false [a] (node kind text n m at_ ns)->gT r l au ad->R (.ret a) ad):al R (.box k 0) U:=by
 obtain ⟨kv,h1,h2,h3,h4⟩:=M.box
 refine ⟨_,_,oQ.freeze h1,h _ _ (.mk hk ?_) ⟨by rw [jr M.ne.symm]; exact A.box,A.ex.del (.inl M.new)⟩⟩
 rcases h2 with ⟨e1,e2,e3⟩ | ⟨τ,e,_,_⟩
 . exact .inl ⟨e2,e3⟩
 . exact .inr ⟨_,e⟩
end
end
end Go.Rip
namespace Go.Rip
open Go.Proofs Go.RowKit
structure Out (X:Rx) (r:Nat) (au:St) (R:cY->St->Prop) (p:PR (List Nd)):Prop where
 ok:∀ ns j,p=.ok ns j->j <= X.L.length->∀ a ad,eE false [a] ns->gT r (rd X j) au ad->R (.ret a) ad
 bad:∀ j,p=.bad j->∀ ad,gT r (rd X j) au ad->R (.panic (Ld X j)) ad
def Ct (X:Rx) (f:FuncId) (i:Nat) (p:PR (List Nd)):Prop:=∀ (r:Nat) (U:St) (R:cY->St->Prop),U.box r=some (rd X i)->Out X r U R p->ae K f [.box r 0] U R
structure Sk (X:Rx) (au:St) (r k i:Nat) (kind:Int) (text:aG) (n m at_:Int) (l:List Nd) (U:St):Prop where
 A:gT r (rd X i) au U
 hi:i <= X.L.length
 M:∃ ks,Mk au U r k kind text n m at_ ks/\eE true ks l/\ks.length <= i
section
variable {X:Rx} {au U:St} {r k i:Nat} {kind:Int} {text:aG} {n m at_:Int} {l:List Nd} {R:cY->St->Prop} {K':AV->St->Prop} {Kp:AV->St->Prop} {w:aG} {f:FuncId}
theorem Sk.jo (S:Sk X au r k i kind text n m at_ l U) {ad:St} {j:Nat} (A:gT r (rd X j) U ad) (hj:j <= X.L.length) (fR:i <= j):Sk X au r k j kind text n m at_ l ad:=by
 obtain ⟨ks,h1,h2,h3⟩:=S.M
 exact ⟨S.A.trans A,hj,ks,h1.jo A S.A.box,h2,by omega⟩
theorem Out.jo {ad:St} {p:PR (List Nd)} {L:List AV} (O:Out X r U R p) (A:gT r L U ad):Out X r ad R p :=
 ⟨fun ns j h hj a bh k A2=>O.ok ns j h hj a bh k (A.trans A2),fun j h bh A2=>O.bad j h bh (A.trans A2)⟩
theorem gP (hr:U.box r=some (rd X i)) (hi:i <= X.L.length) {kind:Int} (h:∀ k ad,Sk X U r k i kind [] 0 0 (dc X.L X.E i) [] ad->K' (.box k 0) ad):ae K 99 [.box r 0,.int .u8 kind] U (ag K' Kp) :=
 YS hr kind fun k ad M A=>h k ad ⟨A,hi,[],M,.nil,by simp⟩
theorem dx {q:Unit->Nat->PR (List Nd)} (S:Sk X au r k i kind text n m at_ l U) (O:Out X r au R ((bI X.L w i).bind q)) (h:∀ ad,Sk X au r k (i+1) kind text n m at_ l ad->Out X r au R (q () (i+1))->K' (.aH []) ad):ae K 102 [.box r 0,.str w] U (ag K' (aa R)) :=
 Ez S.A.box S.hi w (fun e hl ad A=>h ad (S.jo A hl (by omega)) (by rw [e] at O; exact O)) fun e ad A=>O.bad _ (by rw [e]; rfl) _ (S.A.trans A)
theorem nJ {q:aG->Nat->PR (List Nd)} (S:Sk X au r k i kind text n m at_ l U) (O:Out X r au R ((gx X.L i).bind q)) (h:∀ x ad,Sk X au r k (i+1) kind text n m at_ l ad->Out X r au R (q x (i+1))->K' (.str x) ad):ae K 101 [.box r 0] U (ag K' (aa R)) :=
 YB S.A.box S.hi (fun x e hl ad A=>h x ad (S.jo A hl (by omega)) (by rw [e] at O; exact O)) fun e ad A=>O.bad _ (by rw [e]; rfl) _ (S.A.trans A)
theorem pv {q:Int->Nat->PR (List Nd)} (S:Sk X au r k i kind text n m at_ l U) (O:Out X r au R ((iC X.L i).bind q)) (h:∀ x ad,Sk X au r k (i+1) kind text n m at_ l ad->Out X r au R (q x (i+1))->K' (.int .i64 x) ad):ae K 168 [.box r 0] U (ag K' (aa R)) :=
 Qu S.A.box S.hi (fun x e hl ad A=>h x ad (S.jo A hl (by omega)) (by rw [e] at O; exact O)) fun e ad A=>O.bad _ (by rw [e]; rfl) _ (S.A.trans A)
theorem rJ (S:Sk X au r k i kind text n m at_ l U) (h1:bf X.L i w=true->∀ ad,Sk X au r k (i+1) kind text n m at_ l ad->K' (.bool true) ad) (h2:bf X.L i w=false->∀ ad,Sk X au r k i kind text n m at_ l ad->K' (.bool false) ad):ae K 100 [.box r 0,.str w] U (ag K' Kp) :=
 I9 S.A.box S.hi w (fun e ad A=>h1 e ad (S.jo A (dw e) (by omega))) fun e ad A=>h2 e ad (S.jo (.mW S.A.box A) S.hi (by omega))
theorem Tj (S:Sk X au r k i kind text n m at_ l U) (h:∀ b ad,bf X.L i w=b->Sk X au r k i kind text n m at_ l ad->K' (.bool b) ad) :
 (ar (some (9,1)) (some [AV.str []]) 1 false [(0,.str w)]).wp K U (fun v U=>ae K 105 [.box r 0,v] U (ag K' Kp)) Kp:=by
 rw [gG]
 refine ⟨by omega,?_⟩
 rw [eJ (o:=0) (s:=1) rfl]
 refine ⟨⟨rfl,rfl,by simp [bO]⟩,?_⟩
 rw [ik]
 refine ⟨rfl,?_⟩
 refine Nw (l:=[w]) S.A.box S.hi (by simp) fun aR e1=>?_
 exact h _ _ (by rw [AO]) (S.jo (.mW S.A.box e1) S.hi (by omega))
theorem nK {x:aG} (S:Sk X au r k i kind text n m at_ l U) (h:∀ ad,Sk X au r k i kind x n m at_ l ad->K' (.aH []) ad):(aI (some (false,1)) (.box k 1) (.str x) U).wp K U K' Kp:=by
 obtain ⟨ks,h1,h2,h3⟩:=S.M
 exact h1.Ah (fun kv=>⟨rfl,rfl,by simp [mw],rfl⟩) S.A fun ad M A=>h ad ⟨A,S.hi,ks,M,h2,h3⟩
theorem AT {x:Int} (S:Sk X au r k i kind text n m at_ l U) (h:∀ ad,Sk X au r k i x text n m at_ l ad->K' (.aH []) ad):(aI (some (false,1)) (.box k 0) (.int .u8 x) U).wp K U K' Kp:=by
 obtain ⟨ks,h1,h2,h3⟩:=S.M
 exact h1.Ah (fun kv=>⟨rfl,rfl,by simp [mw],rfl⟩) S.A fun ad M A=>h ad ⟨A,S.hi,ks,M,h2,h3⟩
theorem Ag {x:Int} (S:Sk X au r k i kind text n m at_ l U) (h:∀ ad,Sk X au r k i kind text x m at_ l ad->K' (.aH []) ad):(aI (some (false,1)) (.box k 2) (.int .i64 x) U).wp K U K' Kp:=by
 obtain ⟨ks,h1,h2,h3⟩:=S.M
 exact h1.Ah (fun kv=>⟨rfl,rfl,by simp [mw],rfl⟩) S.A fun ad M A=>h ad ⟨A,S.hi,ks,M,h2,h3⟩
theorem agc {x:Int} (S:Sk X au r k i kind text n m at_ l U) (h:∀ ad,Sk X au r k i kind text n x at_ l ad->K' (.aH []) ad):(aI (some (false,1)) (.box k 3) (.int .i64 x) U).wp K U K' Kp:=by
 obtain ⟨ks,h1,h2,h3⟩:=S.M
 exact h1.Ah (fun kv=>⟨rfl,rfl,by simp [mw],rfl⟩) S.A fun ad M A=>h ad ⟨A,S.hi,ks,M,h2,h3⟩
theorem JJ {a:AV} {ns:List Nd} {j:Nat} (S:Sk X au r k j kind text n m at_ l U) (hj:∀ ks,Mk au U r k kind text n m at_ ks->eE true ks l->ks.length <= j->∃ ks',Mk au U r k kind text n m at_ ks'/\eE true ks' l/\ks'.length+1 <= j) (hk:eE false [a] ns) (h:∀ ad,Sk X au r k j kind text n m at_ (l++ns) ad->K' (.box k 0) ad) :
 (ar (some (87,1)) (some [AV.aW]) 1 false [(0,a)]).wp K U (fun v U=>ae K 103 [.box k 0,v] U (ag K' (aa R))) (aa R):=by
 have ha:a.dh=true/\ax a=[a]:=by
  generalize hb:false=b at hk
  generalize hl:[a]=la at hk
  cases hk with
  | mk _ _=>cases hl; exact ⟨rfl,rfl⟩
  | nil=>cases hl
  | cons _ _=>cases hb
 rw [gG]
 refine ⟨by omega,?_⟩
 rw [eJ (o:=0) (s:=1) rfl]
 refine ⟨⟨ha.1,by rw [ha.2]; rfl,by simp [bO]⟩,?_⟩
 rw [ik]
 rw [ha.2]
 refine ⟨rfl,?_⟩
 obtain ⟨ks0,g1,g2,g3⟩:=S.M
 obtain ⟨ks,h1,h2,h3⟩:=hj ks0 g1 g2 g3
 have:=X.small
 have hi:=S.hi
 refine Zp (l2:=[a]) h1 S.A (by omega) rfl (by omega) fun ad M A=>?_
 exact h ad ⟨A,S.hi,_,M,h2.snoc hk,by simp; omega⟩
theorem iD {p:PR (List Nd)} {q:List Nd->Nat->PR (List Nd)} (S:Sk X au r k i kind text n m at_ l U) (C:Ct X f i p) (hp:Gd X.L.length (i+1) i p) (O:Out X r au R (p.bind q))
 (h:∀ ns j ad,j <= X.L.length->i < j->Sk X au r k j kind text n m at_ (l++ns) ad->Out X r au R (q ns j)->K' (.box k 0) ad) :
 ae K f [.box r 0] U (ag (fun v U=>(ar (some (87,1)) (some [AV.aW]) 1 false [(0,v)]).wp K U (fun v U=>ae K 103 [.box k 0,v] U (ag K' (aa R))) (aa R)) (aa R)):=by
 refine C r U _ S.A.box ⟨fun ns j e hj a ad hk A=>?_,fun j e ad A=>O.bad j (by rw [e]; rfl) ad (S.A.trans A)⟩
 rw [e] at hp O
 have fR:i < j:=hp.1
 have S1:=S.jo A hj (by omega)
 refine JJ S1 (fun ks _ _ _=>?_) hk fun bh S2=>h ns j bh hj fR S2 O
 obtain ⟨ks,h1,h2,h3⟩:=S.M
 exact ⟨ks,h1.jo A S.A.box,h2,by omega⟩
theorem eK (S:Sk X au r k i kind text n m at_ l U) (O:Out X r au R (.ok (node kind text n m at_ l) i)):al R (.box k 0) U:=by
 obtain ⟨ks,h1,h2,h3⟩:=S.M
 exact h1.done h2 S.A fun a ad hk A=>O.ok _ _ rfl S.hi a ad hk A
theorem Dx:aa (ag K' Kp)=Kp:=rfl
theorem Hg {kP:FuncId} (he:fw K.P kP=true) {c:List AV}:(jk K.P (.func (.func kP) [.box r 0] []) []).wp K U K' Kp=ae K kP [.box r 0] U (ag K' Kp):=by
 simp [jk,he]
theorem Ew {one:Nat->PR (List Nd)} {kP:FuncId} (he:fw K.P kP=true) (C:∀ i,i <= X.L.length->Ct X kP i (one i)) (hg:∀ i,i <= X.L.length->Gd X.L.length (i+1) i (one i))
 {fu:Nat} (hf:X.L.length - i <= fu) (h0:0 < fu) {q:List Nd->Nat->PR (List Nd)} (S:Sk X au r k i kind text n m at_ l U) (O:Out X r au R ((ju X.L one fu i).bind q))
 (h:∀ ns j ad,j <= X.L.length->i < j->Sk X au r k j kind text n m at_ (l++ns) ad->Out X r au R (q ns j)->K' (.aH []) ad):ae K 106 [.box r 0,.box k 0,.func (.func kP) [.box r 0] []] U (ag K' (aa R)):=by
 refine Gl ?_
 unfold Jz
 rw [Hg he (c:=[])]
 have e:(ju X.L one fu i).bind q=(one i).bind fun a j=>(lV X.L one fu a j).bind q:=by
  unfold ju; cases one i <;> rfl
 rw [e] at O
 simp only [Dx]
 refine iD S (C i S.hi) (hg i S.hi) O fun ns j aR hj fR S1 O1=>?_
 refine ⟨fun mm v0 v1 v2 ad=>∃ acc j f',mm=X.L.length - j/\v0=.box r 0/\v1=.box k 0/\v2=.func (.func kP) [.box r 0] []/\j <= X.L.length/\i < j/\X.L.length - j < f'/\Sk X au r k j kind text n m at_ (l++acc) ad/\Out X r au R ((lV X.L one f' acc j).bind q),
  ⟨_,ns,j,fu,rfl,rfl,rfl,rfl,hj,fR,by omega,S1,O1⟩,?_⟩
 rintro mm v0 v1 v2 bh ⟨acc,j2,f',rfl,rfl,rfl,rfl,qN,xL,Ig,S2,O2⟩
 cases f' with
 | zero=>omega
 | succ f' =>
   unfold lV at O2
   refine rJ S2 (fun hw bW S3=>?_) (fun hw bW S3=>?_)
   . simp only [bG]
     rw [if_pos hw] at O2
     have aQ:=dw hw
     rw [Hg he (c:=[])]
     have e2:((one (j2+1)).bind fun b j=>lV X.L one f' (acc++b) j).bind q=(one (j2+1)).bind fun b j=>(lV X.L one f' (acc++b) j).bind q:=by
      cases one (j2+1) <;> rfl
     rw [e2] at O2
     refine iD S3 (C _ aQ) (hg _ aQ) O2 fun ns3 j3 cN hj3 afl S4 O4=>?_
     refine ⟨_,?_,acc++ns3,j3,f',rfl,rfl,rfl,rfl,hj3,by omega,by omega,by rw [<- gi]; exact S4,O4⟩
     omega
   . simp only [bp]
     rw [if_neg (by rw [hw]; simp)] at O2
     exact al.mk (h acc j2 bW qN xL S3 O2)
end
end Go.Rip
