/- Lemmas for the proof: no conditions. -/
import Derived.Test.YtnfpmiiopiinbaaGreatDoorRipZz
import Derived.Test.YtnfpmiiopiinbaaGreatDoorRipQ
import Derived.Test.YtnfpmiiopiinbaaGreatDoorRipK
import Derived.Test.YtnfpmiiopiinbaaGreatDoorRipF
import Derived.Test.YtnfpmiiopiinbaaGreatDoorRipP
import Derived.Test.YtnfpmiiopiinbaaGreatDoorRipI
import Derived.Test.YtnfpmiiopiinbaaGreatDoorRipG
set_option linter.unusedVariables false
set_option linter.unusedSimpArgs false
set_option linter.loopingSimpArgs false
namespace Go.Rip
open Go.Proofs Go.RowKit
def rr (X:Rx) (i:Nat) (bad:Bool):List AV:=[X.tv,.int .i64 i,.bool bad]
section
variable {X:Rx} {r i:Nat} {bad:Bool} {U:St} {R:cR->St->Prop}
end
end Go.Rip
namespace Go.Rip
open Go.Proofs Go.RowKit
def oI (U:St) (v:AV) (ns:List Nd):Prop:=((v=.ah/\ns=[])\/∃ c,v=.vec ns.length c (bK ns))\/∃ b,v=.ms b 0 ns.length 6 43/\U.box b=some (bK ns)
theorem oI.src {U:St} {v:AV} {ns:List Nd} (h:oI U v ns):rJ U v=some (ns.length,bK ns):=by
 rcases h with (⟨rfl,rfl⟩ | ⟨c,rfl⟩) | ⟨b,rfl,hb⟩
 . rfl
 . rfl
 . simp only [rJ,hb,eD]
   rw [qC (by rw [jU]; omega)]
theorem oI.A6 {U ad:St} {v:AV} {ns:List Nd} (h:oI U v ns) (e:cW U ad):oI ad v ns:=by
 rcases h with h | ⟨b,h1,h2⟩
 . exact .inl h
 . exact .inr ⟨b,h1,e.aX h2⟩
theorem oI.dc {U:St} {v:AV} {ns:List Nd} (h:oI U v ns):v.dc=true/\au v=[v]:=by
 rcases h with (⟨rfl,rfl⟩ | ⟨c,rfl⟩) | ⟨b,rfl,hb⟩ <;> exact ⟨rfl,rfl⟩
section
variable {U:St} {R:cR->St->Prop}
end
end Go.Rip
namespace Go.Rip
open Go.Proofs Go.RowKit
theorem abm (x y:Nd):ax .neq (BT.mk false false false (some [.i,.s,.i,.i,.i,.i]) false) false (.agg (db x)) (.agg (db y))=.val (.bool (!decide (x=y))):=by
 have:VN (some [.i,.s,.i,.i,.i,.i]) (db x) (db y)=some (decide (x=y)):=by
  cases x; cases y
  simp [VN,db,pL]
  grind
 simp only [ax,this,vY]
theorem oI.len {U:St} {v:AV} {l:List Nd} (h:oI U v l):cw (some false) v=.val (.int .i64 l.length):=by
 rcases h with (⟨rfl,rfl⟩ | ⟨c,rfl⟩) | ⟨b,rfl,hb⟩ <;> rfl
theorem oI.nd {U:St} {v:AV} {l:List Nd} {i:Nat} {x:Nd} {k:AV->Prop} (h:oI U v l) (hx:l[i]?=some x) (hk:k (.agg (db x))) :
 aB K (aL (some (43,6)) none v (.int .i64 (i:Nat))) fun p=>aB K (aj (some (true,6)) p U) k:=by
 have aQ:=(dx.1 hx).1
 obtain ⟨r,hr⟩:=Ef hx
 rcases h with (⟨rfl,rfl⟩ | ⟨c,rfl⟩) | ⟨b,rfl,hb⟩
 . simp at aQ
 . rw [abv,iZ,hr,Ly]
   refine ⟨by omega,by simp [db],?_⟩
   simpa [db] using hk
 . rw [adY,yb hb,iZ,cU,hr]
   refine ⟨⟨by omega,by omega,rfl⟩,by simp [db],?_⟩
   simpa [db] using hk
theorem YJ {U:St} {v1 v2:AV} {l1 l2:List Nd} {R:cR->St->Prop} (h1:oI U v1 l1) (h2:oI U v2 l2) (Fg:l1.length <= 1000000) (tz:l2.length <= 1000000) (h:R (.ret (.bool (decide (l1=l2)))) U):ae K 47 [v1,v2] U R:=by
 refine UX ?_
 unfold WY
 simp only [h1.len,h2.len,al,dp]
 by_cases hl:l1.length=l2.length
 . have:((l1.length:Int)=l2.length):=by omega
   simp only [this,du,c8,bm]
   refine ⟨fun m w1 w2 v5 ad=>∃ i:Nat,m=l1.length - i/\i <= l1.length/\w1=v1/\w2=v2/\v5=.int .i64 (i:Nat)/\ad=U/\∀ j,j < i->l1[j]?=l2[j]?,⟨_,0,rfl,by omega,rfl,rfl,rfl,rfl,fun j hj=>by omega⟩,?_⟩
   rintro m w1 w2 v5 ad ⟨i,rfl,hi,rfl,rfl,rfl,rfl,heq⟩
   simp only [h1.len,cb,al,bY]
   refine ⟨fun aQ=>?_,fun kn=>?_⟩
   . have aQ:i < l1.length:=by omega
     obtain ⟨x,hx⟩:∃ x,l1[i]?=some x:=⟨l1[i],by simp [aQ]⟩
     obtain ⟨y,hy⟩:∃ y,l2[i]?=some y:=⟨l2[i],by simp⟩
     refine h1.nd hx ?_
     refine h2.nd hy ?_
     rw [abm]
     simp only [aJ]
     by_cases Bq:x=y
     . simp only [Bq,du,c8,bm,dN]
       refine ⟨bI (by omega) (by omega),l1.length - (i+1),by omega,i+1,rfl,by omega,rfl,rfl,by simp,rfl,fun j hj=>?_⟩
       rcases jL j i with h | h
       . exact heq j h
       . have:j=i:=by omega
         subst this; rw [hx,hy,Bq]
     . simp only [Bq,eB,eQ,bE]
       refine ak.eq h ?_
       have:l1 ≠ l2:=fun e=>Bq (by rw [e,hy] at hx; cases hx; rfl)
       simp [this]
   . refine ak.eq h ?_
     have:l1=l2:=List.ext_getElem? fun j=>by
      rcases jL j i with h | h
      . exact heq j h
      . rw [uE (by omega),uE (by omega)]
     simp [this]
 . have:¬ ((l1.length:Int)=l2.length):=by omega
   simp only [this,eB,eQ,bE]
   refine ak.eq h ?_
   have:l1 ≠ l2:=fun e=>hl (by rw [e])
   simp [this]
end Go.Rip
namespace Go.Rip
open Go.Proofs Go.RowKit
theorem Ho {L:List AV} {o:Nat} {c:AV} (h:L[o]?=some c) (r:List AV):∃ r',(L++r).drop o=c::r':=by
 have aQ:=(dx.1 h).1
 rw [List.drop_append_of_le_length (by omega),gT aQ]
 have:=(dx.1 h).2
 rw [this]
 exact ⟨_,rfl⟩
section
variable {U:St} {v:AV} {l:List Nd} {i o:Nat} {x:Nd} {c gv:AV} {k:AV->Prop} {K':AV->St->Prop} {Kp:AV->St->Prop}
theorem NR (h:oI U v l) (hx:l[i]?=some x) (hc:(db x)[o]?=some c) (hk:K' c U) :
 (aL (some (43,6)) none v (.int .i64 (i:Nat))).wp K U (fun p U=>(af (some o) p).wp K U (fun q U=>(aj (some (false,1)) q U).wp K U K' Kp) Kp) Kp:=by
 have aQ:=(dx.1 hx).1
 obtain ⟨r,hr⟩:=Ef hx
 obtain ⟨r',yK⟩:=Ho hc r
 rcases h with (⟨rfl,rfl⟩ | ⟨cp,rfl⟩) | ⟨b,rfl,hb⟩
 . simp at aQ
 . rw [Cq,iZ,hr]
   refine ⟨by omega,?_⟩
   simp only [dJ,al,ox,yK,bA]
   exact hk
 . rw [AT,iZ,cU]
   refine ⟨⟨by omega,by omega,rfl⟩,?_⟩
   simp only [aZ,al]
   rw [gz hb,<- List.drop_drop,hr,yK,bA]
   exact hk
theorem uC {r:aD} (h:aB K r k):ao K (.bool true) r k:=by rw [aN,cx]; exact h
theorem nO {x:AV} (hk:k x):ao K (.bool true) (.val x) k:=hk
end
structure gk (aq U:St) (v:AV) (e:TypeId) (sz n:Nat) (l:List AV):Prop where
 g:Grow U v e sz n l
 z:n=0->v=.ah
 t:Y4 aq v
 ex:cW aq U
section
variable {aq U:St} {v y:AV} {e:TypeId} {sz n m:Nat} {l l2:List AV} {K':AV->St->Prop} {Kp:AV->St->Prop}
theorem gk.nil (h:cW aq U):gk aq U .ah e sz 0 []:=⟨.inl ⟨rfl,rfl,rfl⟩,fun _=>rfl,(fun _ _ _ e=>by cases e),h⟩
theorem gk.mono {ad:St} (h:gk aq U v e sz n l) (k:cW U ad):gk aq ad v e sz n l:=by
 refine ⟨?_,h.z,h.t,h.ex.trans k⟩
 rcases h.g with g | ⟨τ,r1,r2,r3⟩
 . exact .inl g
 . exact .inr ⟨τ,r1,k.tok r2,r3⟩
theorem JA (h:gk aq U v e sz n l) (hy:rJ U y=some (m,l2)) (hl:l2.length=m * sz) (hm:0 < m) (hb:n+m <= 4294967296)
 (hk:∀ ad v',gk aq ad v' e sz (n+m) (l++l2)->(∀ b x,(∀ n l,v ≠ .vec n (.own b) l)->U.live b=some x->ad.live b=some x)->K' v' ad):(eH (some (e,sz)) false v y U).wp K U K' Kp:=by
 refine DK h.g hy hl hm hb h.z fun ad v' g e1 n1=>hk ad v' ⟨g,fun hz=>by omega,fun n' τ l' hv=>?_,fun b x hx=>?_⟩ e1
 . rcases n1 n' τ l' hv with hz | ⟨n2,l2',hx⟩
   . exact h.ex.fresh hz
   . exact h.t _ _ _ hx
 . exact e1 b x (fun n' l' hv=>by rw [h.t _ _ _ hv] at hx; cases hx) (h.ex b x hx)
theorem gk.sl (h:gk aq U v e sz n l):eJ v n l:=by
 rcases h.g with ⟨h1,h2,h3⟩ | ⟨τ,r1,_,_⟩
 . exact .inl ⟨h1,h2,h3⟩
 . exact .inr ⟨_,r1⟩
theorem NQ {e:TypeId} {x:AV} {z:AV} (hx:x.dc=true) (hc:au x=[x]) (hk:K' (.vec 1 .full [x]) U):(ar (some (e,1)) (some [z]) 1 false [(0,x)]).wp K U K' Kp:=by
 rw [gp]
 refine ⟨by omega,?_⟩
 rw [eG (o:=0) (s:=1) rfl]
 refine ⟨⟨hx,by rw [hc]; rfl,by simp [bN]⟩,?_⟩
 rw [ig,hc]
 exact ⟨rfl,hk⟩
end
def iY (ks:List Nat):List AV:=ks.map fun k=>.int .i64 (k:Nat)
theorem Ue {ks:List Nat} {i k:Nat} (h:ks[i]?=some k):∃ r,(iY ks).drop i=.int .i64 (k:Nat)::r:=by
 have aQ:=(dx.1 h).1
 refine ⟨(iY ks).drop (i+1),?_⟩
 rw [gT (by simpa [iY] using aQ)]
 have:=(dx.1 h).2
 simp [iY,this]
end Go.Rip
namespace Go.Rip
open Go.Proofs Go.RowKit
theorem qM (b:Bool):aP (.aH []) b=.bool false:=by cases b <;> rfl
end Go.Rip
namespace Go.Rip
open Go.Proofs Go.RowKit
def Sp {α:Type} (V:PR α) (bad:Bool) (i:Nat) (W:PR α):Prop:=if bad=true then V=.bad i else V=W
structure Own (r:Nat) (aq U:St) (nb:List (Nat × List AV)):Prop where
 own:∀ p ∈ nb,p.1 ≠ r/\U.box p.1=some p.2/\aq.live p.1=none
 Lm:(nb.map Prod.fst).Nodup
structure S2 (X:Rx) (r:Nat) (aq:St) (V:PR (List Nd)) (bad:Bool) (i:Nat) (W:PR (List Nd)) (nb:List (Nat × List AV)) (U:St):Prop where
 A:gr r (rr X i bad) aq U
 hi:i <= X.L.length
 sp:Sp V bad i W
 own:Own r aq U nb
structure S5 (X:Rx) (r:Nat) (aq:St) (R:cR->St->Prop) (V:PR (List Nd)) (i0 c:Nat):Prop where
 ok:∀ ns j,V=.ok ns j->j <= X.L.length->∀ b ad,aq.live b=none->ad.box b=some (bK ns)->gr r (rr X j false) aq ad->R (.ret (.ms b 0 ns.length 6 43)) ad
 bad:∀ ns j,V=.bad j->i0 <= j->j <= X.L.length->ns.length <= 8 * (j - i0)+c->∀ b ad,aq.live b=none->ad.box b=some (bK ns)->gr r (rr X j true) aq ad->R (.ret (.ms b 0 ns.length 6 43)) ad
section
variable {r:Nat} {aq U ad:St} {nb:List (Nat × List AV)} {b:Nat} {l:List AV}
theorem Own.jb (h:Own r aq U nb) (e:kL r U ad):Own r aq ad nb :=
 ⟨fun p hp=>⟨(h.own p hp).1,e.aX (h.own p hp).1 (h.own p hp).2.1,(h.own p hp).2.2⟩,h.Lm⟩
theorem Own.cons (h:Own r aq U nb) (e:kL r U ad) (hr:b ≠ r) (h0:aq.live b=none) (hn:U.live b=none) (hb:ad.box b=some l):Own r aq ad ((b,l)::nb):=by
 refine ⟨fun p hp=>?_,?_⟩
 . rcases cD.1 hp with rfl | hp
   . exact ⟨hr,hb,h0⟩
   . exact (h.jb e).own p hp
 . rw [eC,List.nodup_cons]
   refine ⟨fun hm=>?_,h.Lm⟩
   obtain ⟨p,hp,rfl⟩:=List.mem_map.1 hm
   exact cj (h.own p hp).2.1 hn
theorem Own.ne {By wQ:List (Nat × List AV)} (h:Own r aq U (By++(b,l)::wQ)) {p:Nat × List AV} (hp:p ∈ By\/p ∈ wQ):p.1 ≠ b:=by
 have:=h.Lm
 rw [List.map_append,eC,List.nodup_append] at this
 obtain ⟨h1,h2,h3⟩:=this
 rw [List.nodup_cons] at h2
 intro e
 rcases hp with hp | hp
 . exact h3 _ (List.mem_map_of_mem hp) _ (List.mem_cons_self ..) e
 . have hh:=List.mem_map_of_mem (f:=Prod.fst) hp
   rw [e] at hh
   exact h2.1 hh
theorem Own.iH {By wQ:List (Nat × List AV)} {l':List AV} (h:Own r aq U (By++(b,l)::wQ)) (hb:ad.box b=some l') (he:∀ b',b' ≠ b->ad.live b'=U.live b'):Own r aq ad (By++(b,l')::wQ):=by
 have g:=h.own (b,l) (by simp)
 refine ⟨fun p hp=>?_,?_⟩
 . rw [fS,cD] at hp
   have old:p ∈ By\/p ∈ wQ->p.1 ≠ r/\ad.box p.1=some p.2/\aq.live p.1=none:=fun hq=>by
    have g2:=h.own p (by rw [fS,cD]; rcases hq with hq | hq; exact .inl hq; exact .inr (.inr hq))
    exact ⟨g2.1,by rw [dy (he _ (h.ne hq))]; exact g2.2.1,g2.2.2⟩
   rcases hp with hp | rfl | hp
   . exact old (.inl hp)
   . exact ⟨g.1,hb,g.2.2⟩
   . exact old (.inr hp)
 . have:=h.Lm; simpa using this
theorem Own.drop {By wQ:List (Nat × List AV)} (h:Own r aq U (By++(b,l)::wQ)):Own r aq U (By++wQ) :=
 ⟨fun p hp=>h.own p (by rw [fS] at hp ⊢; rcases hp with hp | hp; exact .inl hp; exact .inr (List.mem_cons_of_mem _ hp)),by
   have:=h.Lm
   rw [List.map_append,eC] at this
   rw [List.map_append]
   exact this.sublist (List.Sublist.append (List.Sublist.refl _) (List.sublist_cons_self ..))⟩
end
section
variable {X:Rx} {r i:Nat} {bad:Bool} {aq U:St} {V W W':PR (List Nd)} {nb:List (Nat × List AV)} {R:cR->St->Prop} {K':AV->St->Prop} {Kp:AV->St->Prop} {w:aK}
theorem S2.bd (S:S2 X r aq V true i W nb U):V=.bad i:=by have:=S.sp; simpa [Sp] using this
theorem S2.step {ad:St} {j:Nat} {Td:Bool} (S:S2 X r aq V bad i W nb U) (A:gr r (rr X j Td) U ad) (hj:j <= X.L.length) (h:Sp V Td j W'):S2 X r aq V Td j W' nb ad :=
 ⟨S.A.trans A,hj,h,S.own.jb A.ex⟩
theorem S2.A6 {ad:St} (S:S2 X r aq V bad i W nb U) (e:cW U ad):S2 X r aq V bad i W nb ad :=
 S.step (.mg S.A.box e) S.hi S.sp
end
section
variable {X:Rx} {r i:Nat} {bad:Bool} {aq U:St} {V W W':PR (List Nd)} {nb:List (Nat × List AV)} {R:cR->St->Prop} {K':AV->St->Prop} {Kp:AV->St->Prop} {k:AV->Prop} {w:aK}
theorem S2.same {ad:St} {b:Nat} {l:List AV} (S:S2 X r aq V bad i W nb U) (h:(b,l) ∈ nb) (e:kL r U ad):cY [b] U ad:=by
 intro c hc
 have hc:c=b:=by simpa using hc
 subst hc
 have g:=S.own.own _ h
 cases hx:U.live c with
 | none=>exact absurd hx (cj g.2.1)
 | some x=>exact e c x g.1 hx
end
end Go.Rip
namespace Go.Rip
open Go.Proofs Go.RowKit
def bx (kind:Int) (text:aK) (n m at_:Int):List AV:=[.int .u8 kind,.str text,.int .i64 n,.int .i64 m,.int .i64 at_,.int .i64 0]
section
variable {X:Rx} {r i:Nat} {bad:Bool} {aq U:St} {V W W':PR (List Nd)} {nb By wQ:List (Nat × List AV)} {R:cR->St->Prop} {K':AV->St->Prop} {Q:St->Prop} {Kp:AV->St->Prop} {k:AV->Prop} {w:aK} {kind n m at_:Int} {text:aK} {bk:Nat}
theorem S5.tail {i0 c:Nat} (O:S5 X r aq R V i0 c):S5 X r aq (ag (fun v U=>ak R v U) (aa R)) V i0 c :=
 ⟨fun ns j h hj b ad h1 h2 A=>ak.mk (O.ok ns j h hj b ad h1 h2 A),fun ns j h h0 hj hn b ad h1 h2 A=>ak.mk (O.bad ns j h h0 hj hn b ad h1 h2 A)⟩
theorem S2.new {b:Nat} {l:List AV} (S:S2 X r aq V bad i W nb U) (hf:U.dD b):S2 X r aq V bad i W ((b,l)::nb) (U.new b (.box l)):=by
 have cn:b ≠ r:=fun e=>cj S.A.box (e ▸ hf.1)
 exact ⟨S.A.trans (.mg S.A.box (bg hf)),S.hi,S.sp,S.own.cons (bg hf).Hr cn (S.A.ex.fresh cn hf.1) hf.1 aG⟩
end
section
variable {X:Rx} {i:Nat}
end
end Go.Rip
namespace Go.Rip
open Go.Proofs Go.RowKit
theorem acm {e:Nat} {z x:AV} {U:St} {K':AV->St->Prop} {Kp:AV->St->Prop} (hz:au z=[z]) (hx:x.dc=true) (hc:au x=[x]) (h:K' (.vec 1 .full [x]) U):(ar (some (e,1)) (some [z]) 1 false [(0,x)]).wp K U K' Kp:=by
 rw [gp]
 refine ⟨by omega,?_⟩
 rw [eG (o:=0) (s:=1) rfl]
 refine ⟨⟨hx,by rw [hc]; rfl,by simp [bN]⟩,?_⟩
 rw [ig,hc]
 exact ⟨rfl,h⟩
theorem acn {e:Nat} {z x y:AV} {U:St} {K':AV->St->Prop} {Kp:AV->St->Prop} (hx:x.dc=true) (hc:au x=[x]) (hy:y.dc=true) (hd:au y=[y]) (h:K' (.vec 2 .full [x,y]) U):(ar (some (e,1)) (some [z]) 2 false [(0,x),(1,y)]).wp K U K' Kp:=by
 rw [gp]
 refine ⟨by omega,?_⟩
 rw [eG (o:=0) (s:=1) rfl]
 refine ⟨⟨hx,by rw [hc]; rfl,by simp [bN]⟩,?_⟩
 rw [eG (o:=1) (s:=1) rfl]
 refine ⟨⟨hy,by rw [hd]; rfl,by rw [hc]; simp [bN,ay]⟩,?_⟩
 rw [ig,hc,hd]
 exact ⟨rfl,h⟩
section
variable {X:Rx} {r i:Nat} {bad:Bool} {aq U:St} {V W W':PR (List Nd)} {nb nb':List (Nat × List AV)} {R:cR->St->Prop} {K':AV->St->Prop} {Kp:AV->St->Prop} {w:aK}
theorem S2.sub (S:S2 X r aq V bad i W nb U) (h:nb'.Sublist nb):S2 X r aq V bad i W nb' U :=
 ⟨S.A,S.hi,S.sp,⟨fun p hp=>S.own.own p (h.subset hp),S.own.Lm.sublist (h.map _)⟩⟩
end
section
variable {X:Rx} {i:Nat}
end
end Go.Rip
namespace Go.Rip
open Go.Proofs Go.RowKit
def S0 (v w:AV):Prop:=∀ τ n l n' l',v=.vec n (.own τ) l->w=.vec n' (.own τ) l'->False
theorem S0.symm {v w:AV} (h:S0 v w):S0 w v:=fun τ n l n' l' h1 h2=>h τ n' l' n l h2 h1
theorem Grow.A6 {U ad:St} {v:AV} {e sz n:Nat} {l:List AV} (g:Grow U v e sz n l) (h:cW U ad):Grow ad v e sz n l:=by
 rcases g with g | ⟨τ,h1,h2,h3⟩
 . exact .inl g
 . exact .inr ⟨τ,h1,h.tok h2,h3⟩
end Go.Rip
namespace Go.Rip
open Go.Proofs Go.RowKit
theorem VP {c:Prop} [Decidable c] {x:AV} {f:AV->aD} {q:Bool} {U:St} {K':AV->St->Prop} {Kp:AV->St->Prop} (hf:c->f x=.val (.bool q)) (hk:K' (.bool (decide c && q)) U) :
 ao K (aP (.bool (decide c)) true) (aD.val x) fun v6=>ao K (aP (.bool (decide c)) true) (f v6) fun v7=>(bQ (.bool (decide c)) v7 (.bool false)).wp K U K' Kp:=by
 by_cases hc:c
 . simp only [hc,du,bf,gR,aN,cx,aJ,hf hc,aM,if_true,al]
   simpa [hc] using hk
 . simp only [hc,eB,bf,show (false == true)=false from rfl,aN,cF,aM,bU,if_false,al]
   simpa [hc] using hk
theorem Mp {p:Bool} {x:AV} {f:AV->aD} {q:Bool} {U:St} {K':AV->St->Prop} {Kp:AV->St->Prop} (hf:p=false->f x=.val (.bool q)) (hk:K' (.bool (p || q)) U) :
 ao K (aP (.bool p) false) (aD.val x) fun v6=>ao K (aP (.bool p) false) (f v6) fun v7=>(bQ (.bool p) (.bool true) v7).wp K U K' Kp:=by
 cases p with
 | true =>
   simp only [bf,show (true == false)=false from rfl,aN,cF,aM,if_true,al]
   simpa using hk
 | false =>
   simp only [bf,gR,aN,cx,aJ,hf rfl,aM,bU,if_false,al]
   simpa using hk
def Mt (k:Int):Bool:=decide (k=6\/k=7\/k=12\/k=14\/k=25\/k=26)
def Mu (k:Int):Bool:=decide (k=2\/k=3\/k=4\/k=5\/k=12\/k=13\/k=14\/k=16\/k=31\/k=32\/k=33\/k=34\/k=37)
end Go.Rip
namespace Go.Rip
open Go.Proofs Go.RowKit
def oL (ks:List Int):List AV:=ks.map (.int .u8)
theorem X8 {ks:List Int} {i:Nat} {k:Int} (h:ks[i]?=some k):∃ r,(oL ks).drop i=.int .u8 k::r:=by
 have aQ:=(dx.1 h).1
 refine ⟨(oL ks).drop (i+1),?_⟩
 rw [gT (by simpa [oL] using aQ)]
 have:=(dx.1 h).2
 simp [oL,this]
section
variable {U:St} {v:AV} {ks:List Int} {i:Nat} {k:Int} {e:Nat} {K':AV->St->Prop} {Kp:AV->St->Prop} {kq:AV->Prop}
end
section
variable {v:AV} {ks:List Int}
end
end Go.Rip
namespace Go.Rip
open Go.Proofs Go.RowKit
def TF (k:Int) (ks:List Int):Bool:=match bC k with | some f=>dQ ks f.kids | none=>false
theorem vI {k:Int} (h:k < 1\/37 < k):bC k=none:=by
 unfold bC
 repeat rw [if_neg (by omega)]
section
variable {U:St} {R:cR->St->Prop} {v:AV} {ks:List Int} {c:Prop} [Decidable c] {q:Bool} {f:FuncId} {Kp:AV->St->Prop} {K':AV->St->Prop} {Kp:AV->St->Prop}
end
end Go.Rip
namespace Go.Rip
open Go.Proofs Go.RowKit
section
variable {U:St} {bt:BT} {l:Bool} {k:IntKind} {a b:Int} {K':AV->St->Prop} {Kp:AV->St->Prop}
theorem AR (h:K' (.bool (decide (a=b))) U):(ax .eql bt l (.int k a) (.int k b)).wp K U K' Kp:=by rw [br]; exact h
theorem SS (h:K' (.bool (!decide (a=b))) U):(ax .neq bt l (.int k a) (.int k b)).wp K U K' Kp:=by rw [dp]; exact h
theorem aco (h:K' (.bool (decide (b <= a))) U):(ax .geq bt l (.int k a) (.int k b)).wp K U K' Kp:=by rw [il]; exact h
theorem SR (h:K' (.bool (decide (b < a))) U):(ax .gtr bt l (.int k a) (.int k b)).wp K U K' Kp:=by rw [eY]; exact h
theorem dP {A B:Prop} (h:A):aw (.bool true) A B:=by rw [bE]; exact h
theorem dC {A B:Prop} (h:B):aw (.bool false) A B:=by rw [bm]; exact h
theorem gZ {p:Prop} [Decidable p] {A B:Prop} (h:p->A) (h':¬ p->B):aw (.bool (decide p)) A B:=by rw [bY]; exact ⟨h,h'⟩
end
def D0 (x:Nd):Bool:=(Mu x.kind == decide (x.text ≠ [])) && (!decide (x.text ≠ []) || kI x.text) && (if Mt x.kind then dH x.n else decide (x.n=0)) && (if x.kind=12 then dH x.m else decide (x.m=0))
theorem Gq:∀ n:Fin 38,(match bC ((n.val:Nat):Int) with | some f=>f.text == Mu (n.val:Nat) && f.n == Mt (n.val:Nat) && f.m == decide (((n.val:Nat):Int)=12) | none=>true)=true:=by decide +kernel
theorem HA {k:Int} {f:gd} (h:bC k=some f):f.text=Mu k/\f.n=Mt k/\f.m=decide (k=12):=by
 have hk:1 <= k/\k <= 37:=by
  by_cases h1:k < 1\/37 < k
  . rw [vI h1] at h; cases h
  . omega
 obtain ⟨n,rfl⟩:∃ n:Nat,k=n:=⟨k.toNat,by omega⟩
 have:=Gq ⟨n,by omega⟩
 simp only [h,bX,beq_iff_eq] at this
 exact ⟨this.1.1,this.1.2,this.2⟩
theorem EZ {x:Nd} {f:gd} (h:bC x.kind=some f):D0 x=ee x f:=by
 obtain ⟨h1,h2,h3⟩:=HA h
 have z:dH 0=true:=by simp [dH]
 unfold D0 ee
 rw [<- h1,<- h2]
 have hm:(if x.kind=12 then dH x.m else decide (x.m=0))=(if f.m=true then dH x.m else decide (x.m=0)):=by
  rw [h3]; by_cases h:x.kind=12 <;> simp [h]
 rw [hm]
 have e0:(x.text != [])=decide (x.text ≠ []):=by
  by_cases h:x.text=[] <;> simp [h]
 rw [e0]
 by_cases ht:x.text=[]
 . have:kI []=false:=by decide
   cases f.text <;> cases f.n <;> cases f.m <;> by_cases hn:x.n=0 <;> by_cases O5:x.m=0 <;> simp [ht,hn,O5,z,this]
 . cases f.text <;> cases f.n <;> cases f.m <;> by_cases hn:x.n=0 <;> by_cases O5:x.m=0 <;> simp [ht,hn,O5,z]
end Go.Rip
namespace Go.Rip
open Go.Proofs Go.RowKit
theorem oF {f:FuncId} {args:List AV} {x:AV} {kq:AV->Prop} (h:Pure K f args x) (hk:kq x):aB K (aD.enter f args) kq:=⟨x,h,hk⟩
theorem kJ {b o k:Nat} {kq:AV->Prop} (h:kq (.box b (o+k))):aB K (af (some k) (.box b o)) kq:=h
theorem aaO {b o k:Nat} {kq:AV->Prop} (h:kq (.box b (o+k))):ao K (.bool true) (af (some k) (.box b o)) kq:=h
theorem aaP {U:St} {b o:Nat} {L l:List AV} {x:AV} {kq:AV->Prop} (hb:U.box b=some L) (hd:L.drop o=x::l) (h:kq x):ao K (.bool true) (aj (some (false,1)) (.box b o) U) kq:=by rw [ld hb,hd]; exact h
theorem fK {U:St} {b o:Nat} {L l:List AV} {x:AV} {kq:AV->Prop} (hb:U.box b=some L) (hd:L.drop o=x::l) (h:kq x):aB K (aj (some (false,1)) (.box b o) U) kq:=by rw [ld hb,hd]; exact h
theorem dY {U τ:St} {b o:Nat} {L l:List AV} {x:AV} {K':AV->St->Prop} {Kp:AV->St->Prop} (hb:U.box b=some L) (hd:L.drop o=x::l) (h:K' x τ):(aj (some (false,1)) (.box b o) U).wp K τ K' Kp:=by rw [ld hb,hd]; exact h
end Go.Rip
namespace Go.Rip
open Go.Proofs Go.RowKit
def xV (x:Nd) (ks:List Int):Bool:=D0 x && TF x.kind ks
theorem IH {k:Int} {t:aK} {n m a:Int} {ks:List Tre} {x:Nd} (h1:x.kind=k) (h2:x.text=t) (h3:x.n=n) (h4:x.m=m):(Tre.mk k t n m a ks).ok=(xV x (ks.map Tre.kind) && Tre.sW ks):=by
 rw [Tre.ok]
 congr 1
 unfold xV TF
 rw [h1]
 cases hf:bC k with
 | none=>simp
 | some f =>
   rw [EZ (f:=f) (by rw [h1]; exact hf)]
   congr 1
   unfold ee
   simp only [h2,h3,h4]
theorem yk {l:List Nd}:∀ {ts:List Tre} {p q jk:Nat},mR l p ts->(eu p ts)[q]?=some jk->∃ u,ts[q]?=some u/\gm l jk u
 | [],p,q,jk,h,hk=>by simp [eu] at hk
 | t::ts,p,0,jk,h,hk=>by simp [eu] at hk; subst hk; exact ⟨t,rfl,h.head⟩
 | t::ts,p,q+1,jk,h,hk=>by
   simp only [eu,List.getElem?_cons_succ] at hk
   obtain ⟨u,h1,h2⟩:=yk h.tail hk
   exact ⟨u,by simpa using h1,h2⟩
theorem IM {l:List Nd}:∀ (N:Nat) (ts:List Tre) (p:Nat),(Tre.bG ts).length <= N->mR l p ts->(∀ j s x,p <= j->j < p+(Tre.bG ts).length->gm l j s->l[j]?=some x->xV x (s.kids.map Tre.kind)=true)->Tre.sW ts=true
 | _,[],_,_,_,_=>by simp
 | 0,t::ts,_,hN,_,_=>by have:=t.ef; simp only [Tre.cS,df] at hN; omega
 | N+1,.mk k tx n m a ks::ts,p,hN,h,cm=>by
   have Bg:(Tre.mk k tx n m a ks).flat.length=(Tre.bG ks).length+1:=nN (.mk k tx n m a ks)
   simp only [Tre.cS,df] at hN cm
   rw [Tre.sr]
   obtain ⟨x,hx,h1,h2,h3,h4,h5,h6⟩:=h.head.qG
   rw [IH (k:=k) (t:=tx) (n:=n) (m:=m) (x:=x) h1 h3 h4 h5]
   have e1:xV x (ks.map Tre.kind)=true:=cm p _ x (cX _) (by omega) h.head hx
   have e2:=IM N ks (p+1) (by omega) h.head.kids fun j s y zr rV=>cm j s y (by omega) (by omega)
   have e3:=IM N ts (p+(Tre.flat (.mk k tx n m a ks)).length) (by omega) h.tail fun j s y zr rV=>cm j s y (by omega) (by omega)
   rw [e1,e2,e3]; rfl
theorem abT {t:Tre} (h:t.ok=true) {i:Nat} {s:Tre} (hs:gm t.flat i s):s.ok=true:=by
 have hi:i < t.flat.length:=by have:=hs.le; have:=s.ef; omega
 obtain ⟨s',h1,h2⟩:=wX (l:=t.flat) t.flat.length [t] 0 (by simp) ⟨[],by simp⟩ i (by omega) (by simpa using hi)
 rw [hs.inj h1]
 exact h2 (by simp [h])
theorem Uv {s:Tre} (h:s.ok=true) {l:List Nd} {i:Nat} {x:Nd} (hs:gm l i s) (hx:l[i]?=some x):xV x (s.kids.map Tre.kind)=true:=by
 obtain ⟨y,hy,h1,h2,h3,h4,h5,h6⟩:=hs.qG
 rw [hx] at hy; cases hy
 cases s with
 | mk k tx n m a ks =>
   rw [IH (k:=k) (t:=tx) (n:=n) (m:=m) (x:=x) h1 h3 h4 h5,bX] at h
   exact h.1
end Go.Rip
namespace Go.Rip
open Go.Proofs Go.RowKit
theorem JB {U:St} {bt:BT} {l:Bool} {k:IntKind} {a b:Int} {A B:AV->St->Prop} {Kp:AV->St->Prop} (h:a < b->A (.bool true) U) (h':¬ a < b->B (.bool false) U):(ax .lss bt l (.int k a) (.int k b)).wp K U (fun v U=>aw v (A v U) (B v U)) Kp:=by
 rw [cb,al]
 by_cases hc:a < b
 . simp only [hc,du]; exact dP (h hc)
 . simp only [hc,eB]; exact dC (h' hc)
end Go.Rip
