/- Lemmas for the proof: no conditions. -/
import Derived.Test.YtnfpmiiopiinbaaGreatDoorRipZz
import Derived.Test.YtnfpmiiopiinbaaGreatDoorRipM
import Derived.Test.YtnfpmiiopiinbaaGreatDoorRipF
import Derived.Test.YtnfpmiiopiinbaaGreatDoorRipG
import Derived.Test.YtnfpmiiopiinbaaGreatDoorRipH
import Derived.Test.YtnfpmiiopiinbaaGreatDoorRipE
set_option linter.unusedVariables false
set_option linter.unusedSimpArgs false
set_option linter.loopingSimpArgs false
namespace Go.Rip
open Go.RowKit
structure Rx where
 L:List Tk
 E:Nat
 tv:AV
 tr:dA tv L.length (il L)
 ok:∀ t ∈ L,qM t
 small:L.length <= 900
def rd (X:Rx) (i:Nat):List AV:=[X.tv,.int .i64 i,.int .i64 X.E,CA,uA]
def Ir (X:Rx) (i:Nat):AV:=.iface 136 (.agg [.int .i64 (fp X.L X.E i)])
theorem dA.len {v:AV} {n:Nat} {cs:List AV} (h:dA v n cs):cj (some false) v=.val (.int .i64 n):=by
 rcases h with ⟨rfl,rfl,rfl⟩ | ⟨c,rfl⟩ <;> rfl
theorem dA.at {v:AV} {n:Nat} {cs:List AV} (h:dA v n cs) {sz e j:Nat} (hj:j < n):∃ c,v=.vec n c cs/\aG (some (e,sz)) none v (.int .i64 (j:Int))=.cond (0 <= (j:Int)/\(j:Int) < n) (.val (.cn (cs.drop (j * sz)))):=by
 rcases h with ⟨rfl,rfl,rfl⟩ | ⟨c,rfl⟩
 . omega
 . exact ⟨c,rfl,by simp⟩
theorem ze:∀ i,closed (K.xy i)=true:=fun i=>by
 show closed (if i=0 then .cn uq else if i=7 then .cn u1 else .any)=true
 split
 . kernel_rfl
 . split
   . kernel_rfl
   . rfl
theorem Pure.of {f:Nat} {args:List AV} {x:AV} (hargs:bY args=true) (hx:closed x=true) (hr:∀ U,resolve 5 U x=x)
 (h:∀ R:cA->St->Prop,(∀ ad,R (.ret x) ad)->ae K f args (bC ⟨.e,0⟩) R):Pure K f args x :=
 Pure.yO ze hargs hx 5 (h _ fun ad=>⟨x,rfl,hr ad⟩)
def idx (l:List aQ) (s:aQ):Int:=match l.findIdx? (·=s) with | some i=>i | none=>-1
theorem J4 (c:j9) (l:List aQ) (s:aQ) (hn:l.length <= 100000):Pure K 230 [.vec l.length c (l.map .str),.str s] (.int .i64 (idx l s)):=by
 intro U R hR
 refine Ph ?_
 simp only [Pg,uV,al]
 refine ⟨fun m v0 v1 v7 v8 ad=>∃ i:Nat,m=l.length - i/\i <= l.length/\v0=.vec l.length c (l.map .str)/\v1=.str s/\v7=.int .i64 l.length/\v8=.int .i64 i/\ad=U/\∀ j,j < i->l[j]? ≠ some s,⟨l.length,0,by simp [Fn.app]⟩,?_⟩
 intro m v0 v1 v7 v8 ad hI
 obtain ⟨i,rfl,hi,rfl,rfl,rfl,rfl,rfl,hX⟩:=hI
 simp only [bP,al,bR]
 refine ⟨fun aO=>?_,fun jo=>?_⟩
 . have aO:i < l.length:=by omega
   have hd:(l.map AV.str).drop (i * 1)=.str l[i]::(l.map AV.str).drop (i+1):=by
    rw [Nat.mul_one,gl (by simpa using aO)]; simp
   simp only [wS,wp_cond,al,gb,hd,te,c7,ix,bR]
   refine ⟨by omega,fun he=>?_,fun bT=>?_⟩
   . refine ak.eq hR ?_
     have:l.findIdx? (·=s)=some i:=by
      rw [GC]
      refine ⟨aO,by simp [he],fun j hj=>?_⟩
      have:=hX j hj
      rw [nj (by omega)] at this
      simpa using this
     simp [idx,this]
   . simp only [kF,fl,wp_cond,al]
     refine ⟨bw (by omega) (by omega),?_⟩
     refine ⟨l.length - (i+1),by omega,i+1,rfl,by omega,rfl,rfl,rfl,by simp,rfl,fun j hj=>?_⟩
     . rcases je j i with h | h
       . exact hX j h
       . have:j=i:=by omega
         subst this
         rw [nj aO]; simpa using fun h=>bT h.symm
 . refine ak.eq hR ?_
   have:l.findIdx? (·=s)=none:=by
    rw [List.findIdx?_eq_none_iff]
    intro x hx
    obtain ⟨j,hj,rfl⟩:=List.getElem_of_mem hx
    have:=hX j (by omega)
    rw [nj hj] at this
    simpa using this
   simp [idx,this]
section
variable {X:Rx} {r i:Nat} {U:St} {R:cA->St->Prop}
theorem Gz (hr:U.box r=some (rd X i)) (h:R (.ret (.int .i64 (fp X.L X.E i))) U):ae K 164 [.box r 0] U R:=by
 refine OF ?_
 simp only [OE,bU,aC,bg,ld hr,rd,List.drop,c7,X.tr.len,bP,bR,al,cV]
 refine ⟨fun aO=>?_,fun jo=>?_⟩
 . have aO:i < X.L.length:=by omega
   obtain ⟨c,hv,q9⟩:=X.tr.at (sz:=3) (e:=51) aO
   obtain ⟨t,ht⟩:∃ t,X.L[i]?=some t:=⟨X.L[i],by simp [aO]⟩
   obtain ⟨rest,hd⟩:=CO ht
   simp only [q9,iD,aC,hd,cU,te,oy,ib,kK,List.drop,c7]
   refine ⟨by omega,ak.mk ?_⟩
   have:fp X.L X.E i=t.at_:=by simp [fp,ht]
   rw [<- this]; exact h
 . refine ak.mk ?_
   have:fp X.L X.E i=X.E:=by simp [fp,wb (show X.L.length <= i by omega)]
   rw [<- this]; exact h
def pV:Option Tk->List AV
 | some t=>oy t
 | none=>[.int .u8 0,.str [],.int .i64 0]
theorem oS (hr:U.box r=some (rd X i)) (hi:i <= X.L.length) (k:Nat) (hk:k <= 10) (h:∀ ad,cN U ad->R (.ret (.agg (pV X.L[i+k]?))) ad):ae K 167 [.box r 0,.int .i64 k] U R:=by
 refine OJ ?_
 have hs:=X.small
 simp only [OI,ju]
 intro b hb
 have IC:=hb.bK hr
 have FU:(U.new b (.box [AV.int .u8 0,AV.str [],AV.int .i64 0])).box r=some (rd X i):=by rw [pj IC]; exact hr
 have fX:(U.new b (.box [AV.int .u8 0,AV.str [],AV.int .i64 0])).box b=some [AV.int .u8 0,AV.str [],AV.int .i64 0]:=aK
 simp only [NV.at,bU,aC,bg,ld FU,rd,List.drop,c7,X.tr.len,kF,fl,iD,bP,bR,al,cV]
 refine ⟨bw (by omega) (by omega),fun aO=>?_,fun jo=>?_⟩
 . have aO:i+k < X.L.length:=by omega
   obtain ⟨c,hv,q9⟩:=X.tr.at (sz:=3) (e:=51) aO
   obtain ⟨t,ht⟩:∃ t,X.L[i+k]?=some t:=⟨X.L[i+k],by simp [aO]⟩
   obtain ⟨rest,hd⟩:=CO ht
   rw [<- Int.natCast_add]
   simp only [q9,iD,aC,hd,Kv,yn fX,wp_cond,kB]
   refine ⟨bw (by omega) (by omega),by omega,by simp [oy],by simp [oy],?_⟩
   rw [tV (MS (aW) 3 0)]
   refine ⟨by simp [aB,oy],?_⟩
   refine ak.eq (h _ (((cN.refl U).new hb).set hb.1)) ?_
   simp [aB,oy,ht,pV]
 . simp only [eh,fm,al,yn fX,wp_cond,kB]
   refine ⟨by simp,?_⟩
   rw [tV (MS (aW) 3 0)]
   refine ⟨by simp [aB],?_⟩
   refine ak.eq (h _ (((cN.refl U).new hb).set hb.1)) ?_
   simp [aB,wb (show X.L.length <= i+k by omega),pV]
def tY (o:Option Tk) (l:List aQ):Bool:=match o with
 | some t=>(t.k == 3 || t.k == 4) && decide (t.s ∈ l)
 | none=>false
theorem J3 (l:List aQ) (s:aQ):decide (0 <= idx l s)=decide (s ∈ l):=by
 unfold idx
 split
 . rename_i j hj
   obtain ⟨h1,h2,_⟩:=GC.1 hj
   have:s ∈ l:=by have:=of_decide_eq_true h2; exact this ▸ List.getElem_mem h1
   simp [this]
 . rename_i hj
   rw [List.findIdx?_eq_none_iff] at hj
   have:s ∉ l:=fun hm=>by simpa using hj s hm
   simp [this]
theorem Ea (c:j9) (l:List aQ) (s:aQ) (hn:l.length <= 100000):Pure K 178 [.vec l.length c (l.map .str),.str s] (.bool (decide (s ∈ l))):=by
 intro U R hR
 refine ON ?_
 refine (J4 c l s hn).go ?_
 simp only [fO,al]
 refine ak.eq hR ?_
 rw [J3]
theorem z6 {c:j9} (o:Option Tk) (l:List aQ) (hn:l.length <= 100000) (h:∀ ad,cN U ad->R (.ret (.bool (tY o l))) ad):ae K 121 [.agg (pV o),.vec l.length c (l.map .str)] U R:=by
 refine NQ ?_
 have hl:∃ k s a,pV o=[.int .u8 k,.str s,.int .i64 a]/\tY o l=((decide (k=3) || decide (k=4)) && decide (s ∈ l)):=by
  cases o with
  | none=>exact ⟨0,[],0,rfl,rfl⟩
  | some t=>exact ⟨t.k,t.s,t.at_,rfl,by
     have e:∀ m:Nat,(t.k == m)=decide ((t.k:Int)=(m:Int)):=fun m=>by
      rw [nY]; simp; omega
     simp only [tY,e 3,e 4]; rfl⟩
 obtain ⟨k,s,a,e1,e2⟩:=hl
 rw [e1]
 simp only [NP,C2 _ (Ri _),wp_cond,true_and,Lz,ju]
 intro b_ hb
 have fX:(U.new b_ (.box [.int .u8 k,.str s,.int .i64 a])).box b_=some [.int .u8 k,.str s,.int .i64 a]:=aK
 have hx:=h _ ((cN.refl U).new (x:=.box [.int .u8 k,.str s,.int .i64 a]) hb)
 rw [e2] at hx
 simp only [NV.at,bg,al,ld fX,List.drop,c7,bj,aU,aI,pJ,cV]
 have Mn:=Ea c l s hn
 have step:∀ b:Bool,((decide (k=3) || decide (k=4)) && decide (s ∈ l))=b->ak R (.bool b) (U.new b_ (.box [.int .u8 k,.str s,.int .i64 a])):=fun b e=>by subst e; exact ak.mk hx
 by_cases h3:k=3
 . subst h3
   simp [ld fX]
   exact ⟨_,Mn,step _ (by simp)⟩
 . by_cases h4:k=4
   . subst h4
     simp [ld fX]
     exact ⟨_,Mn,step _ (by simp)⟩
   . simp [ld fX,h3,h4]
     exact step _ (by simp [h3,h4])
theorem Hv (s w:aQ):decide (s ∈ [w])=(s == w):=by
 by_cases h:s=w
 . simp [h]
 . simp [h]
theorem yP (L:List Tk) (i:Nat) (w:aQ):tY L[i]? [w]=cz L i w:=by
 unfold tY cz
 split
 . rename_i t ht; rw [ht,Hv]
 . rename_i ht; rw [ht]
theorem Kb {c:j9} (hr:U.box r=some (rd X i)) (hi:i <= X.L.length) (l:List aQ) (hn:l.length <= 100000) (h:∀ ad,cN U ad->R (.ret (.bool (tY X.L[i]? l))) ad):ae K 105 [.box r 0,.vec l.length c (l.map .str)] U R:=by
 refine NM ?_
 refine oS hr hi 0 (by omega) fun aP e1=>?_
 refine z6 (X.L[i]?) l hn fun aZ e2=>?_
 exact ak.mk (h _ (e1.trans e2))
theorem Gl (hr:U.box r=some (rd X i)) (hi:i <= X.L.length) (w:aQ)
 (h1:cz X.L i w=true->∀ ad,fH r (rd X (i+1)) U ad->R (.ret (.bool true)) ad) (h2:cz X.L i w=false->∀ ad,cN U ad->R (.ret (.bool false)) ad):ae K 100 [.box r 0,.str w] U R:=by
 refine NG ?_
 have hs:=X.small
 simp only [NF,aq,fm,C4,Rk,bF,wp_cond,al,aB,List.take,List.drop,kK,ib,ia]
 refine ⟨by omega,by simp,by simp,?_⟩
 refine Kb (l:=[w]) hr hi (by simp) fun aP e1=>?_
 have FU:=e1.aS hr
 simp only [bu,dR,al,yP]
 cases hw:cz X.L i w with
 | false=>simp only [eA,bH]; exact ak.mk (h2 hw _ e1)
 | true =>
   simp only [cI,bq,bU,al,bg,ld FU,rd,List.drop,c7,cV,kF,fl,wp_cond,yn FU,kB]
   refine ⟨bw (by omega) (by omega),by simp,ak.mk (h1 hw _ ⟨?_,(e1.LN (r:=r)).set (.inr rfl)⟩)⟩
   rw [aW]; simp [aB,rd]
theorem Iq (hr:U.box r=some (rd X i)) (h:R (.panic (Ir X i)) U):ae K 166 [.box r 0] U R:=by
 refine OH ?_
 refine Gz hr ?_
 simp only [bu,eh,fm,LA,Rj,wp_cond,al,aB,vN,if_true,sA,Sy]
 refine ⟨by simp,?_⟩
 exact h
theorem Cw (hr:U.box r=some (rd X i)) (hi:i <= X.L.length) (w:aQ)
 (h1:cT X.L w i=.ok () (i+1)->i+1 <= X.L.length->∀ ad,fH r (rd X (i+1)) U ad->R (.ret (.aF [])) ad) (h2:cT X.L w i=.bad i->∀ ad,fH r (rd X i) U ad->R (.panic (Ir X i)) ad):ae K 102 [.box r 0,.str w] U R:=by
 refine NI ?_
 refine Gl hr hi w (fun hw aP a1=>?_) (fun hw aP e1=>?_)
 . simp only [bu,dR,al,cI,bq]
   exact ak.mk (h1 (by simp [cT,hw]) (dy hw) _ a1)
 . simp only [bu,dR,al,eA,bH]
   exact Iq (e1.aS hr) (h2 (by simp [cT,hw]) _ (.kr hr e1))
theorem tA (o:Option Tk):∃ k:Int,∃ s a,pV o=[.int .u8 k,.str s,.int .i64 a]/\(∀ m:Nat,0 < m->(k=(m:Int) ↔ ∃ t,o=some t/\t.k=m/\t.s=s)):=by
 cases o with
 | none=>exact ⟨0,[],0,rfl,fun m hm=>⟨fun h=>by omega,fun ⟨t,h,_⟩=>by cases h⟩⟩
 | some t=>exact ⟨t.k,t.s,t.at_,rfl,fun m hm=>⟨fun h=>⟨t,rfl,by omega,rfl⟩,fun ⟨u,h,h2,h3⟩=>by cases h; omega⟩⟩
theorem Nh (hr:U.box r=some (rd X i)) (hi:i <= X.L.length) (k:Nat) (hk:0 < k)
 (h1:∀ t,X.L[i]?=some t->t.k=k->i+1 <= X.L.length->∀ ad,fH r (rd X (i+1)) U ad->R (.ret (.str t.s)) ad) (h2:(∀ t,X.L[i]?=some t->t.k ≠ k)->∀ ad,fH r (rd X i) U ad->R (.panic (Ir X i)) ad):ae K 165 [.box r 0,.int .u8 k] U R:=by
 refine OG ?_
 have hs:=X.small
 refine oS hr hi 0 (by omega) fun aP e1=>?_
 have FU:=e1.aS hr
 obtain ⟨m,s,a,e,hm⟩:=tA X.L[i+0]?
 rw [e]
 simp only [bu,ju]
 intro b hb
 have IC:=hb.bK FU
 have e2:=e1.new (x:=.box [AV.int .u8 0,AV.str [],AV.int .i64 0]) hb
 have fX:(aP.new b (.box [AV.int .u8 0,AV.str [],AV.int .i64 0])).box b=some [AV.int .u8 0,AV.str [],AV.int .i64 0]:=aK
 simp only [NV.at,yn fX,wp_cond,kB]
 refine ⟨by simp,?_⟩
 have e3:=e2.set (x:=.box (aB [AV.int .u8 0,AV.str [],AV.int .i64 0] 0 (au (.agg [.int .u8 m,.str s,.int .i64 a])))) (e1.fresh hb.1)
 generalize om:(aP.new b (.box [AV.int .u8 0,AV.str [],AV.int .i64 0])).set b (.box (aB [AV.int .u8 0,AV.str [],AV.int .i64 0] 0 (au (.agg [.int .u8 m,.str s,.int .i64 a]))))=bZ at e3 ⊢
 have jn:bZ.box b=some [.int .u8 m,.str s,.int .i64 a]:=by rw [<- om,aW]; rfl
 have zo:=e3.aS hr
 intro j hj
 simp only [bg,al,ld jn,List.drop,c7,cV,c6,av,Bool.not_eq_true',decide_eq_false_iff_not,Bool.not_eq_false',dI]
 refine ⟨fun bT=>?_,fun heq=>?_⟩
 . refine Iq zo ?_
   exact h2 (fun t ht he=>bT ((hm k hk).2 ⟨t,ht,he,by rw [Nat.add_zero,ht] at e; cases e; rfl⟩)) _ (.kr hr e3)
 . obtain ⟨t,ht,pv,xL⟩:=(hm k hk).1 heq
   have aO:=(c8.1 ht).1
   refine hj _ _ _ ?_
   simp only [bU,al,bg,ld zo,rd,List.drop,c7,cV,kF,fl,wp_cond,yn zo,kB]
   refine ⟨bw (by omega) (by omega),by simp,?_⟩
   rw [kB]
   generalize F4:bZ.set r _=cC
   have gu:cC.box b=some [.int .u8 m,.str s,.int .i64 a]:=by rw [<- F4,aN (Ne.symm IC)]; exact jn
   have hr4:cC.box r=some (rd X (i+1)):=by rw [<- F4,aW]; simp [aB,rd]
   have e4:jk r U cC:=by rw [<- F4]; exact (e3.LN (r:=r)).set (.inr rfl)
   simp only [ld gu,List.drop,c7,al]
   refine ak.mk ?_
   rw [<- xL]
   exact h1 t ht pv aO _ ⟨hr4,e4⟩
theorem UZ (hr:U.box r=some (rd X i)) (hi:i <= X.L.length)
 (h1:∀ x,jX X.L i=.ok x (i+1)->i+1 <= X.L.length->∀ ad,fH r (rd X (i+1)) U ad->R (.ret (.str x)) ad) (h2:jX X.L i=.bad i->∀ ad,fH r (rd X i) U ad->R (.panic (Ir X i)) ad):ae K 101 [.box r 0] U R:=by
 refine NH ?_
 refine Nh hr hi 1 (by omega) (fun t ht hk hl aP a1=>?_) (fun hn aP a1=>?_)
 . exact ak.mk (h1 t.s (by simp [jX,ht,hk]) hl _ a1)
 . refine h2 ?_ _ a1
   unfold jX
   split
   . rename_i t ht; rw [if_neg (hn t ht)]
   . rfl
end
end Go.Rip
namespace Go.Rip
open Go.Proofs Go.RowKit
theorem Pure.Nf {f:FuncId} {args:List AV} {vs:List Value} {x:AV} {v:Value} (hargs:∀ g us,az g args us->us=vs) (hx:∀ g,ay g x v)
 (h:∀ w,Calls K.P f vs.toArray w fun e w'=>e=.returned v/\w.grownBy w' none):Pure K f args x:=by
 intro U R hR g w us hs hG ha
 have:=hargs g us ha
 subst this
 refine callsIn_wide.2 ((h w).mono fun e w' ⟨h1,h2⟩=>?_)
 subst h1
 exact ⟨g,U,x,Gh.Le.refl g,hs.grow h2,hx g,hR⟩
theorem Hp (w:World) (e:TypeId) (s:ByteArray):w.grownBy (Lib.bytesWorld w e s) none:=by
 have bT:∀ q,q < w.heap.size->w.heap.size ≠ q:=fun q h=>by omega
 unfold Lib.bytesWorld World.freeze
 split
 . exact ⟨rfl,rfl,rfl,by simp [World.alloc,World.drew,-World.alloc_eq,-World.drew_eq],fun q hq _=>by simp [World.alloc,World.drew,-World.alloc_eq,-World.drew_eq,Array.getElem?_push,Nat.ne_of_lt hq]⟩
 . refine ⟨rfl,rfl,rfl,by simp [World.alloc,World.drew,-World.alloc_eq,-World.drew_eq],fun q hq _=>?_⟩
   simp [World.alloc,World.drew,-World.alloc_eq,-World.drew_eq,Array.getElem?_modify,Array.getElem?_push,bT q hq,Nat.ne_of_lt hq]
theorem Lo (s:aQ) (h0:s ≠ []) (h:ng s=0):Pure K 218 [.str s] (.aF [.int .i64 (tQ s),.cJ]):=by
 obtain ⟨h1,h2,_⟩:=DN h0 h
 refine Pure.Nf (vs:=[.string ⟨s.toArray⟩]) (v:=.tuple #[.int .i64 (tQ s),.nilIface]) (fun g us hr=>RF hr) (fun g=>by simp [ay,az]) fun w=>?_
 refine (Tryz.strconv_Atoi ⟨s.toArray⟩ (tQ s) (by show s.toArray.size <= 18; simp; omega) (Qj h0 (IX h).1) w).mono fun e w' ⟨he,t,hw⟩=>⟨he,?_⟩
 subst hw
 exact Hp _ _ _
section
variable {X:Rx} {r i:Nat} {U:St} {R:cA->St->Prop}
theorem Nb (hr:U.box r=some (rd X i)) (hi:i <= X.L.length)
 (h1:∀ x,lK X.L i=.ok x (i+1)->i+1 <= X.L.length->∀ ad,fH r (rd X (i+1)) U ad->R (.ret (.int .i64 x)) ad) (h2:lK X.L i=.bad i->∀ ad,fH r (rd X i) U ad->R (.panic (Ir X i)) ad):ae K 168 [.box r 0] U R:=by
 refine OK ?_
 refine Nh hr hi 2 (by omega) (fun t ht hk hl aP a1=>?_) (fun hn aP a1=>?_)
 . have cr:=X.ok t (fj ht)
   refine (Lo t.s cr.1 (U3 cr hk)).go ?_
   simp only [bB,List.drop,c7,al,ar,if_true]
   intro j hj
   simp only [and_self,if_true,al,bq]
   exact hj _ _ (ak.mk (h1 _ (by simp [lK,ht,hk]) hl _ a1))
 . refine h2 ?_ _ a1
   unfold lK
   split
   . rename_i t ht; rw [if_neg (hn t ht)]
   . rfl
def ta (kind:Int) (text:aQ) (n m at_:Int) (kv:AV):List AV:=[.int .u8 kind,.str text,.int .i64 n,.int .i64 m,.int .i64 at_,.int .i64 0,kv]
def Grow (U:St) (v:AV) (e:TypeId) (sz n:Nat) (l:List AV):Prop:=(n=0/\l=[]/\v=.aw)\/∃ τ,v=.vec n (.own τ) l/\U.tok τ=some ⟨n,e,sz⟩/\l.length=n * sz
def VK (ao:St) (v:AV):Prop:=∀ n τ l,v=.vec n (.own τ) l->ao.live τ=none
theorem EF {e sz n m:Nat} {v y:AV} {l l2:List AV} {K':AV->St->Prop} {Kp:AV->St->Prop} (hg:Grow U v e sz n l) (hy:pO U y=some (m,l2)) (hl:l2.length=m * sz) (hm:0 < m) (hb:n+m <= 4294967296) (h0:n=0->v=.aw)
 (h:∀ ad v',Grow ad v' e sz (n+m) (l++l2)->(∀ b x,(∀ n l,v ≠ .vec n (.own b) l)->U.live b=some x->ad.live b=some x)->(∀ n τ l,v'=.vec n (.own τ) l->U.live τ=none\/∃ n l,v=.vec n (.own τ) l)->K' v' ad):(ez (some (e,sz)) false v y U).wp K U K' Kp:=by
 rcases hg with ⟨rfl,rfl,rfl⟩ | ⟨τ,rfl,ht,Mp⟩
 . have Mt:m ≠ 0:=by omega
   simp only [ez,hy,if_neg Mt,bJ,if_false,wp_cond]
   refine ⟨hl,by omega,fun b eH=>?_⟩
   refine h _ _ (.inr ⟨b,by simp [NV.at],by rw [cV]; exact BQ,by simp [hl]⟩) (fun c x hc hx=>(a7 eH) c x hx) fun n τ l hv=>?_
   simp only [NV.at,AV.vec.injEq,j9.own.injEq] at hv
   exact .inl (hv.2.1 ▸ eH.1)
 . have zl:n ≠ 0:=fun e=>by have:=h0 e; cases this
   simp only [ez,hy,wp_cond]
   refine ⟨hl,⟨ht,Mp,hb⟩,fun b eH=>?_⟩
   refine h _ _ (.inr ⟨b,rfl,BQ,by simp [hl,Mp,Nat.add_mul]⟩) (fun c x hc hx=>?_) fun n' sN l' hv=>?_
   . refine (a7 eH) c x ?_
     have bT:c ≠ τ:=fun e=>hc n l (by rw [e])
     show (U.del τ).live c=some x
     rw [jd,if_neg bT]; exact hx
   . simp only [NV.at,AV.vec.injEq,j9.own.injEq] at hv
     have hf:=eH.1
     rw [<- hv.2.1]
     by_cases e:b=τ
     . subst e; exact .inr ⟨_,_,rfl⟩
     . left
       have:(U.del τ).live b=none:=hf
       rw [jd,if_neg e] at this; exact this
structure Mk (ao U:St) (r k:Nat) (kind:Int) (text:aQ) (n m at_:Int) (ks:List AV):Prop where
 box:∃ kv,U.box k=some (ta kind text n m at_ kv)/\Grow U kv 87 1 ks.length ks/\VK ao kv/\(ks=[]->kv=.aw)
 new:ao.live k=none
 ne:k ≠ r
inductive eK:Bool->List AV->List Nd->Prop
 | mk {kind:Int} {text:aQ} {n m at_:Int} {kv:AV} {ks:List AV} {l:List Nd}:eK true ks l->(ks=[]/\kv=.aw\/∃ c,kv=.vec ks.length c ks)->eK false [.cn (ta kind text n m at_ kv)] (node kind text n m at_ l)
 | nil:eK true [] []
 | cons {a:AV} {ks:List AV} {l l':List Nd}:eK false [a] l->eK true ks l'->eK true (a::ks) (l++l')
theorem eK.snoc {ks:List AV} {l:List Nd} {a:AV} {l':List Nd} (h:eK true ks l) (k:eK false [a] l'):eK true (ks++[a]) (l++l'):=by
 generalize hb:true=b at h
 induction h with
 | mk _ _ _=>cases hb
 | nil=>simpa using eK.cons k eK.nil
 | cons h1 h2 _ ih=>rw [iM]; exact .cons h1 (ih rfl)
theorem eK.one {a:AV} {l:List Nd} (k:eK false [a] l):eK true [a] l:=by simpa using eK.cons k eK.nil
section
variable {X:Rx} {r i j k:Nat} {ao U ad:St} {R:cA->St->Prop} {kind:Int} {text:aQ} {n m at_:Int} {ks:List AV}
theorem Mk.gO {l:List AV} (M:Mk ao U r k kind text n m at_ ks) (a:fH r l U ad) {l':List AV} (hr:U.box r=some l'):Mk ao ad r k kind text n m at_ ks:=by
 obtain ⟨kv,h1,h2,h3,h4⟩:=M.box
 refine ⟨⟨kv,a.ex.aS M.ne h1,?_,h3,h4⟩,M.new,M.ne⟩
 rcases h2 with h2 | ⟨τ,e,ht,hl⟩
 . exact .inl h2
 . exact .inr ⟨τ,e,a.ex.tok (dL hr ht).symm ht,hl⟩
theorem Mk.yn (M:Mk ao U r k kind text n m at_ ks) {o w:Nat} {v:AV} {Tl:Int} {Uc:aQ} {n' m' Xa:Int} {K':AV->St->Prop} {Kp:AV->St->Prop} {t:Bool}
 (hs:∀ kv,v.cQ=true/\(au v).length=w/\o+w <= (ta kind text n m at_ kv).length/\aB (ta kind text n m at_ kv) o (au v)=ta Tl Uc n' m' Xa kv)
 {L:List AV} (A:fH r L ao U)
 (h:∀ ad,Mk ao ad r k Tl Uc n' m' Xa ks->fH r L ao ad->K' (.aF []) ad):(aJ (some (t,w)) (.box k o) v U).wp K U K' Kp:=by
 obtain ⟨kv,h1,h2,h3,h4⟩:=M.box
 obtain ⟨s1,s2,s3,s4⟩:=hs kv
 rw [cX h1,s4]
 refine ⟨⟨s1,s2,s3⟩,h _ ⟨⟨kv,aW,?_,h3,h4⟩,M.new,M.ne⟩ ⟨by rw [aN M.ne.symm]; exact A.box,A.ex.set (.inl M.new)⟩⟩
 rcases h2 with h2 | ⟨τ,e,ht,hl⟩
 . exact .inl h2
 . exact .inr ⟨τ,e,by rw [fx (dL h1 ht).symm]; exact ht,hl⟩
theorem Vf (hr:U.box r=some (rd X i)) (kind:Int) (h:∀ k ad,Mk U ad r k kind [] 0 0 (fp X.L X.E i) []->fH r (rd X i) U ad->R (.ret (.box k 0)) ad):ae K 99 [.box r 0,.int .u8 kind] U R:=by
 refine R7 ?_
 refine Gz hr ?_
 refine qA [.int .u8 kind,.str [],.int .i64 0,.int .i64 0,.int .i64 (fp X.L X.E i),.int .i64 0] rfl ?_
 refine qA (ta kind [] 0 0 (fp X.L X.E i) .aw) rfl ?_
 rw [er rfl]
 intro b hb
 exact ak.mk (h b _ ⟨⟨_,aK,.inl ⟨rfl,rfl,rfl⟩,(fun _ _ _ e=>by cases e),fun _=>rfl⟩,hb.1,(hb.bK hr).symm⟩ (.kr hr ((cN.refl U).new hb)))
theorem Jl {L:List AV} {mm:Nat} {c:j9} {l2:List AV} (M:Mk ao U r k kind text n m at_ ks) (A:fH r L ao U) (hm:0 < mm) (hl:l2.length=mm) (hb:ks.length+mm <= 4294967296)
 (h:∀ ad,Mk ao ad r k kind text n m at_ (ks++l2)->fH r L ao ad->ak R (.box k 0) ad):ae K 103 [.box k 0,.vec mm c l2] U R:=by
 refine NL ?_
 obtain ⟨kv,h1,h2,h3,h4⟩:=M.box
 simp only [NJ,bU,al,bg,fW h1,ta,List.drop,bE,cV]
 refine EF h2 rfl (by simp [hl]) hm hb (fun e=>h4 (qS.1 e)) fun aP v' g1 e1 n1=>?_
 have k1:aP.box k=some (ta kind text n m at_ kv):=by
  cases e:U.live k with
  | none=>exact absurd e (bG h1)
  | some x =>
    have:=e1 k x (fun n' l' hv=>by
     rcases h2 with ⟨_,_,h2⟩ | ⟨τ,h2,ht,_⟩
     . rw [h2] at hv; cases hv
     . rw [h2] at hv; cases hv; exact dL h1 ht rfl) e
    rw [dP (this.trans e.symm)]; exact h1
 have A1:fH r L ao aP:=by
  have key:∀ b x,ao.live b=some x->U.live b=some x->aP.live b=some x:=fun b x hx hy=>e1 b x (fun n' l' hv=>by rw [h3 _ _ _ hv] at hx; cases hx) hy
  refine ⟨?_,fun b x hbr hx=>key b x hx (A.ex b x hbr hx)⟩
  cases e:U.live r with
  | none=>exact absurd e (bG A.box)
  | some x =>
    have:=e1 r x (fun n' l' hv=>by
     rcases h2 with ⟨_,_,h2⟩ | ⟨τ,h2,ht,_⟩
     . rw [h2] at hv; cases hv
     . rw [h2] at hv; cases hv; exact dL A.box ht rfl) e
    rw [dP (this.trans e.symm)]; exact A.box
 rw [cX k1]
 have bT:v' ≠ .aw:=by
  rcases g1 with ⟨h0,_,_⟩ | ⟨τ,e,_⟩
  . omega
  . rw [e]; simp
 have cQ:v'.cQ=true/\au v'=[v']:=by
  rcases g1 with ⟨h0,_,_⟩ | ⟨τ,e,_⟩
  . omega
  . rw [e]; exact ⟨rfl,rfl⟩
 refine ⟨⟨cQ.1,by rw [cQ.2]; rfl,by simp [ta]⟩,(h _ ⟨⟨v',?_,?_,fun n' sN l' hv=>?_,fun e=>?_⟩,M.new,M.ne⟩ ⟨by rw [aN M.ne.symm]; exact A1.box,A1.ex.set (.inl M.new)⟩)⟩
 . rw [aW,cQ.2]; rfl
 . rw [dh,hl]
   rcases g1 with h0 | ⟨τ,e,ht,hl⟩
   . exact .inl h0
   . exact .inr ⟨τ,e,by rw [fx (dL k1 ht).symm]; exact ht,hl⟩
 . rcases n1 n' sN l' hv with hx | ⟨n2,l2',hx⟩
   . cases e:ao.live sN with
     | none=>rfl
     | some x =>
       by_cases hrt:sN=r
       . subst hrt; exact absurd hx (bG A.box)
       . have:=A.ex sN x hrt e; rw [hx] at this; cases this
   . exact h3 _ _ _ hx
 . have:l2=[]:=(List.append_eq_nil_iff.1 e).2
   subst this; simp at hl; omega
theorem VN {L:List AV} {mm:Nat} {c:j9} {l2:List AV} (M:Mk ao U r k kind text n m at_ ks) (A:fH r L ao U) (hm:0 < mm) (hl:l2.length=mm) (hb:ks.length+mm <= 4294967296)
 (h:∀ ad,Mk ao ad r k kind text n m at_ (ks++l2)->fH r L ao ad->R (.ret (.box k 0)) ad):ae K 103 [.box k 0,.vec mm c l2] U R:=Jl M A hm hl hb fun ad M A=>ak.mk (h ad M A)
theorem Mk.done {l:List AV} {ns:List Nd} (M:Mk ao U r k kind text n m at_ ks) (hk:eK true ks ns) (A:fH r l ao U) (h:∀ a ad,eK false [a] (node kind text n m at_ ns)->fH r l ao ad->R (.ret a) ad):ak R (.box k 0) U:=by
 obtain ⟨kv,h1,h2,h3,h4⟩:=M.box
 refine ⟨_,_,mR.freeze h1,h _ _ (.mk hk ?_) ⟨by rw [eM M.ne.symm]; exact A.box,A.ex.del (.inl M.new)⟩⟩
 rcases h2 with ⟨e1,e2,e3⟩ | ⟨τ,e,_,_⟩
 . exact .inl ⟨e2,e3⟩
 . exact .inr ⟨_,e⟩
end
end
end Go.Rip
namespace Go.Rip
open Go.Proofs Go.RowKit
structure Out (X:Rx) (r:Nat) (ao:St) (R:cA->St->Prop) (p:PR (List Nd)):Prop where
 ok:∀ ns j,p=.ok ns j->j <= X.L.length->∀ a ad,eK false [a] ns->fH r (rd X j) ao ad->R (.ret a) ad
 bad:∀ j,p=.bad j->∀ ad,fH r (rd X j) ao ad->R (.panic (Ir X j)) ad
def Ct (X:Rx) (f:FuncId) (i:Nat) (p:PR (List Nd)):Prop:=∀ (r:Nat) (U:St) (R:cA->St->Prop),U.box r=some (rd X i)->Out X r U R p->ae K f [.box r 0] U R
structure Sk (X:Rx) (ao:St) (r k i:Nat) (kind:Int) (text:aQ) (n m at_:Int) (l:List Nd) (U:St):Prop where
 A:fH r (rd X i) ao U
 hi:i <= X.L.length
 M:∃ ks,Mk ao U r k kind text n m at_ ks/\eK true ks l/\ks.length <= i
section
variable {X:Rx} {ao U:St} {r k i:Nat} {kind:Int} {text:aQ} {n m at_:Int} {l:List Nd} {R:cA->St->Prop} {K':AV->St->Prop} {Kp:AV->St->Prop} {w:aQ} {f:FuncId}
theorem Sk.gO (S:Sk X ao r k i kind text n m at_ l U) {ad:St} {j:Nat} (A:fH r (rd X j) U ad) (hj:j <= X.L.length) (fJ:i <= j):Sk X ao r k j kind text n m at_ l ad:=by
 obtain ⟨ks,h1,h2,h3⟩:=S.M
 exact ⟨S.A.trans A,hj,ks,h1.gO A S.A.box,h2,by omega⟩
theorem Out.gO {ad:St} {p:PR (List Nd)} {L:List AV} (O:Out X r U R p) (A:fH r L U ad):Out X r ad R p :=
 ⟨fun ns j h hj a aZ k A2=>O.ok ns j h hj a aZ k (A.trans A2),fun j h aZ A2=>O.bad j h aZ (A.trans A2)⟩
theorem gZ (hr:U.box r=some (rd X i)) (hi:i <= X.L.length) {kind:Int} (h:∀ k ad,Sk X U r k i kind [] 0 0 (fp X.L X.E i) [] ad->K' (.box k 0) ad):ae K 99 [.box r 0,.int .u8 kind] U (ag K' Kp) :=
 Vf hr kind fun k ad M A=>h k ad ⟨A,hi,[],M,.nil,by simp⟩
theorem eY {q:Unit->Nat->PR (List Nd)} (S:Sk X ao r k i kind text n m at_ l U) (O:Out X r ao R ((cT X.L w i).bind q)) (h:∀ ad,Sk X ao r k (i+1) kind text n m at_ l ad->Out X r ao R (q () (i+1))->K' (.aF []) ad):ae K 102 [.box r 0,.str w] U (ag K' (aa R)) :=
 Cw S.A.box S.hi w (fun e hl ad A=>h ad (S.gO A hl (by omega)) (by rw [e] at O; exact O)) fun e ad A=>O.bad _ (by rw [e]; rfl) _ (S.A.trans A)
theorem pb {q:aQ->Nat->PR (List Nd)} (S:Sk X ao r k i kind text n m at_ l U) (O:Out X r ao R ((jX X.L i).bind q)) (h:∀ x ad,Sk X ao r k (i+1) kind text n m at_ l ad->Out X r ao R (q x (i+1))->K' (.str x) ad):ae K 101 [.box r 0] U (ag K' (aa R)) :=
 UZ S.A.box S.hi (fun x e hl ad A=>h x ad (S.gO A hl (by omega)) (by rw [e] at O; exact O)) fun e ad A=>O.bad _ (by rw [e]; rfl) _ (S.A.trans A)
theorem qJ {q:Int->Nat->PR (List Nd)} (S:Sk X ao r k i kind text n m at_ l U) (O:Out X r ao R ((lK X.L i).bind q)) (h:∀ x ad,Sk X ao r k (i+1) kind text n m at_ l ad->Out X r ao R (q x (i+1))->K' (.int .i64 x) ad):ae K 168 [.box r 0] U (ag K' (aa R)) :=
 Nb S.A.box S.hi (fun x e hl ad A=>h x ad (S.gO A hl (by omega)) (by rw [e] at O; exact O)) fun e ad A=>O.bad _ (by rw [e]; rfl) _ (S.A.trans A)
theorem BJ (S:Sk X ao r k i kind text n m at_ l U) (h1:cz X.L i w=true->∀ ad,Sk X ao r k (i+1) kind text n m at_ l ad->K' (.bool true) ad) (h2:cz X.L i w=false->∀ ad,Sk X ao r k i kind text n m at_ l ad->K' (.bool false) ad):ae K 100 [.box r 0,.str w] U (ag K' Kp) :=
 Gl S.A.box S.hi w (fun e ad A=>h1 e ad (S.gO A (dy e) (by omega))) fun e ad A=>h2 e ad (S.gO (.kr S.A.box A) S.hi (by omega))
theorem Zz (S:Sk X ao r k i kind text n m at_ l U) (h:∀ b ad,cz X.L i w=b->Sk X ao r k i kind text n m at_ l ad->K' (.bool b) ad) :
 (aq (some (9,1)) (some [AV.str []]) 1 false [(0,.str w)]).wp K U (fun v U=>ae K 105 [.box r 0,v] U (ag K' Kp)) Kp:=by
 rw [fN]
 refine ⟨by omega,?_⟩
 rw [ek (o:=0) (s:=1) rfl]
 refine ⟨⟨rfl,rfl,by simp [bF]⟩,?_⟩
 rw [gI]
 refine ⟨rfl,?_⟩
 refine Kb (l:=[w]) S.A.box S.hi (by simp) fun aP e1=>?_
 exact h _ _ (by rw [yP]) (S.gO (.kr S.A.box e1) S.hi (by omega))
theorem pc {x:aQ} (S:Sk X ao r k i kind text n m at_ l U) (h:∀ ad,Sk X ao r k i kind x n m at_ l ad->K' (.aF []) ad):(aJ (some (false,1)) (.box k 1) (.str x) U).wp K U K' Kp:=by
 obtain ⟨ks,h1,h2,h3⟩:=S.M
 exact h1.yn (fun kv=>⟨rfl,rfl,by simp [ta],rfl⟩) S.A fun ad M A=>h ad ⟨A,S.hi,ks,M,h2,h3⟩
theorem Vv {x:Int} (S:Sk X ao r k i kind text n m at_ l U) (h:∀ ad,Sk X ao r k i x text n m at_ l ad->K' (.aF []) ad):(aJ (some (false,1)) (.box k 0) (.int .u8 x) U).wp K U K' Kp:=by
 obtain ⟨ks,h1,h2,h3⟩:=S.M
 exact h1.yn (fun kv=>⟨rfl,rfl,by simp [ta],rfl⟩) S.A fun ad M A=>h ad ⟨A,S.hi,ks,M,h2,h3⟩
theorem KX {x:Int} (S:Sk X ao r k i kind text n m at_ l U) (h:∀ ad,Sk X ao r k i kind text x m at_ l ad->K' (.aF []) ad):(aJ (some (false,1)) (.box k 2) (.int .i64 x) U).wp K U K' Kp:=by
 obtain ⟨ks,h1,h2,h3⟩:=S.M
 exact h1.yn (fun kv=>⟨rfl,rfl,by simp [ta],rfl⟩) S.A fun ad M A=>h ad ⟨A,S.hi,ks,M,h2,h3⟩
theorem adZ {x:Int} (S:Sk X ao r k i kind text n m at_ l U) (h:∀ ad,Sk X ao r k i kind text n x at_ l ad->K' (.aF []) ad):(aJ (some (false,1)) (.box k 3) (.int .i64 x) U).wp K U K' Kp:=by
 obtain ⟨ks,h1,h2,h3⟩:=S.M
 exact h1.yn (fun kv=>⟨rfl,rfl,by simp [ta],rfl⟩) S.A fun ad M A=>h ad ⟨A,S.hi,ks,M,h2,h3⟩
theorem GV {a:AV} {ns:List Nd} {j:Nat} (S:Sk X ao r k j kind text n m at_ l U) (hj:∀ ks,Mk ao U r k kind text n m at_ ks->eK true ks l->ks.length <= j->∃ ks',Mk ao U r k kind text n m at_ ks'/\eK true ks' l/\ks'.length+1 <= j) (hk:eK false [a] ns) (h:∀ ad,Sk X ao r k j kind text n m at_ (l++ns) ad->K' (.box k 0) ad) :
 (aq (some (87,1)) (some [AV.aV]) 1 false [(0,a)]).wp K U (fun v U=>ae K 103 [.box k 0,v] U (ag K' (aa R))) (aa R):=by
 have ha:a.cQ=true/\au a=[a]:=by
  generalize hb:false=b at hk
  generalize hl:[a]=la at hk
  cases hk with
  | mk _ _=>cases hl; exact ⟨rfl,rfl⟩
  | nil=>cases hl
  | cons _ _=>cases hb
 rw [fN]
 refine ⟨by omega,?_⟩
 rw [ek (o:=0) (s:=1) rfl]
 refine ⟨⟨ha.1,by rw [ha.2]; rfl,by simp [bF]⟩,?_⟩
 rw [gI]
 rw [ha.2]
 refine ⟨rfl,?_⟩
 obtain ⟨ks0,g1,g2,g3⟩:=S.M
 obtain ⟨ks,h1,h2,h3⟩:=hj ks0 g1 g2 g3
 have:=X.small
 have hi:=S.hi
 refine VN (l2:=[a]) h1 S.A (by omega) rfl (by omega) fun ad M A=>?_
 exact h ad ⟨A,S.hi,_,M,h2.snoc hk,by simp; omega⟩
theorem lO {p:PR (List Nd)} {q:List Nd->Nat->PR (List Nd)} (S:Sk X ao r k i kind text n m at_ l U) (C:Ct X f i p) (hp:Gd X.L.length (i+1) i p) (O:Out X r ao R (p.bind q))
 (h:∀ ns j ad,j <= X.L.length->i < j->Sk X ao r k j kind text n m at_ (l++ns) ad->Out X r ao R (q ns j)->K' (.box k 0) ad) :
 ae K f [.box r 0] U (ag (fun v U=>(aq (some (87,1)) (some [AV.aV]) 1 false [(0,v)]).wp K U (fun v U=>ae K 103 [.box k 0,v] U (ag K' (aa R))) (aa R)) (aa R)):=by
 refine C r U _ S.A.box ⟨fun ns j e hj a ad hk A=>?_,fun j e ad A=>O.bad j (by rw [e]; rfl) ad (S.A.trans A)⟩
 rw [e] at hp O
 have fJ:i < j:=hp.1
 have S1:=S.gO A hj (by omega)
 refine GV S1 (fun ks _ _ _=>?_) hk fun aZ S2=>h ns j aZ hj fJ S2 O
 obtain ⟨ks,h1,h2,h3⟩:=S.M
 exact ⟨ks,h1.gO A S.A.box,h2,by omega⟩
theorem fE (S:Sk X ao r k i kind text n m at_ l U) (O:Out X r ao R (.ok (node kind text n m at_ l) i)):ak R (.box k 0) U:=by
 obtain ⟨ks,h1,h2,h3⟩:=S.M
 exact h1.done h2 S.A fun a ad hk A=>O.ok _ _ rfl S.hi a ad hk A
theorem By:aa (ag K' Kp)=Kp:=rfl
theorem EK {jl:FuncId} (he:dU K.P jl=true) {c:List AV}:(gr K.P (.func (.func jl) [.box r 0] []) []).wp K U K' Kp=ae K jl [.box r 0] U (ag K' Kp):=by
 simp [gr,he]
theorem UU {one:Nat->PR (List Nd)} {jl:FuncId} (he:dU K.P jl=true) (C:∀ i,i <= X.L.length->Ct X jl i (one i)) (hg:∀ i,i <= X.L.length->Gd X.L.length (i+1) i (one i))
 {fu:Nat} (hf:X.L.length - i <= fu) (h0:0 < fu) {q:List Nd->Nat->PR (List Nd)} (S:Sk X ao r k i kind text n m at_ l U) (O:Out X r ao R ((yM X.L one fu i).bind q))
 (h:∀ ns j ad,j <= X.L.length->i < j->Sk X ao r k j kind text n m at_ (l++ns) ad->Out X r ao R (q ns j)->K' (.aF []) ad):ae K 106 [.box r 0,.box k 0,.func (.func jl) [.box r 0] []] U (ag K' (aa R)):=by
 refine DS ?_
 unfold GM
 rw [EK he (c:=[])]
 have e:(yM X.L one fu i).bind q=(one i).bind fun a j=>(rD X.L one fu a j).bind q:=by
  unfold yM; cases one i <;> rfl
 rw [e] at O
 simp only [By]
 refine lO S (C i S.hi) (hg i S.hi) O fun ns j aP hj fJ S1 O1=>?_
 refine ⟨fun mm v0 v1 v2 ad=>∃ acc j f',mm=X.L.length - j/\v0=.box r 0/\v1=.box k 0/\v2=.func (.func jl) [.box r 0] []/\j <= X.L.length/\i < j/\X.L.length - j < f'/\Sk X ao r k j kind text n m at_ (l++acc) ad/\Out X r ao R ((rD X.L one f' acc j).bind q),
  ⟨_,ns,j,fu,rfl,rfl,rfl,rfl,hj,fJ,by omega,S1,O1⟩,?_⟩
 rintro mm v0 v1 v2 aZ ⟨acc,j2,f',rfl,rfl,rfl,rfl,sd,Cm,FE,S2,O2⟩
 cases f' with
 | zero=>omega
 | succ f' =>
   unfold rD at O2
   refine BJ S2 (fun hw bZ S3=>?_) (fun hw bZ S3=>?_)
   . simp only [bH]
     rw [if_pos hw] at O2
     have aO:=dy hw
     rw [EK he (c:=[])]
     have e2:((one (j2+1)).bind fun b j=>rD X.L one f' (acc++b) j).bind q=(one (j2+1)).bind fun b j=>(rD X.L one f' (acc++b) j).bind q:=by
      cases one (j2+1) <;> rfl
     rw [e2] at O2
     refine lO S3 (C _ aO) (hg _ aO) O2 fun YO j3 cC X2 ac3 S4 O4=>?_
     refine ⟨_,?_,acc++YO,j3,f',rfl,rfl,rfl,rfl,X2,by omega,by omega,by rw [<- iM]; exact S4,O4⟩
     omega
   . simp only [bq]
     rw [if_neg (by rw [hw]; simp)] at O2
     exact ak.mk (h acc j2 bZ sd Cm S3 O2)
end
end Go.Rip
