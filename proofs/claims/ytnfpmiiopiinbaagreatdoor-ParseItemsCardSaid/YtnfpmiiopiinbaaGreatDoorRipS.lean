/- Lemmas for the proof: no conditions. -/
import Derived.Test.YtnfpmiiopiinbaaGreatDoorRipZz
import Derived.Test.YtnfpmiiopiinbaaGreatDoorRipQ
import Derived.Test.YtnfpmiiopiinbaaGreatDoorRipK
import Derived.Test.YtnfpmiiopiinbaaGreatDoorRipF
import Derived.Test.YtnfpmiiopiinbaaGreatDoorRipP
import Derived.Test.YtnfpmiiopiinbaaGreatDoorRipI
import Derived.Test.YtnfpmiiopiinbaaGreatDoorRipG
set_option linter.unusedVariables false
set_option linter.unusedSimpArgs false
set_option linter.loopingSimpArgs false
namespace Go.Rip
open Go.Proofs Go.RowKit
def rr (X:Rx) (i:Nat) (bad:Bool):List AV:=[X.tv,.int .i64 i,.bool bad]
section
variable {X:Rx} {r i:Nat} {bad:Bool} {U:St} {R:cA->St->Prop}
theorem zC {k:AV->Prop} {r:aD} {gv:AV} (hg:gv=.bool false) (h:k (.aF [])):ai K gv r k:=by rw [hg,aI,bV]; exact h
theorem adK {k:AV->Prop} {x y:AV} (h:k x):ax K (bp (.bool true) x y) k:=h
theorem KL {k:AV->Prop} {x y:AV} (h:k y):ax K (bp (.bool false) x y) k:=h
theorem sC {k:AV->Prop} {r:aD} {gv v:AV} (hg:gv=.bool true) (hr:r=.val v) (h:k v):ai K gv r k:=by rw [hg,hr]; exact h
end
end Go.Rip
namespace Go.Rip
open Go.Proofs Go.RowKit
def lC (U:St) (v:AV) (ns:List Nd):Prop:=((v=.aw/\ns=[])\/∃ c,v=.vec ns.length c (cH ns))\/∃ b,v=.ms b 0 ns.length 6 43/\U.box b=some (cH ns)
theorem lC.src {U:St} {v:AV} {ns:List Nd} (h:lC U v ns):pO U v=some (ns.length,cH ns):=by
 rcases h with (⟨rfl,rfl⟩ | ⟨c,rfl⟩) | ⟨b,rfl,hb⟩
 . rfl
 . rfl
 . simp only [pO,hb,dJ]
   rw [pL (by rw [tX]; omega)]
theorem lC.zc {U ad:St} {v:AV} {ns:List Nd} (h:lC U v ns) (e:cN U ad):lC ad v ns:=by
 rcases h with h | ⟨b,h1,h2⟩
 . exact .inl h
 . exact .inr ⟨b,h1,e.aS h2⟩
theorem lC.cQ {U:St} {v:AV} {ns:List Nd} (h:lC U v ns):v.cQ=true/\au v=[v]:=by
 rcases h with (⟨rfl,rfl⟩ | ⟨c,rfl⟩) | ⟨b,rfl,hb⟩ <;> exact ⟨rfl,rfl⟩
section
variable {U:St} {R:cA->St->Prop}
end
end Go.Rip
namespace Go.Rip
open Go.Proofs Go.RowKit
theorem lC.len {U:St} {v:AV} {l:List Nd} (h:lC U v l):cj (some false) v=.val (.int .i64 l.length):=by
 rcases h with (⟨rfl,rfl⟩ | ⟨c,rfl⟩) | ⟨b,rfl,hb⟩ <;> rfl
theorem lC.nd {U:St} {v:AV} {l:List Nd} {i:Nat} {x:Nd} {k:AV->Prop} (h:lC U v l) (hx:l[i]?=some x) (hk:k (.agg (cG x))) :
 ax K (aG (some (43,6)) none v (.int .i64 (i:Nat))) fun p=>ax K (ah (some (true,6)) p U) k:=by
 have aO:=(c8.1 hx).1
 obtain ⟨r,hr⟩:=uX hx
 rcases h with (⟨rfl,rfl⟩ | ⟨c,rfl⟩) | ⟨b,rfl,hb⟩
 . simp at aO
 . rw [KJ,gb,hr,Jb]
   refine ⟨by omega,by simp [cG],?_⟩
   simpa [cG] using hk
 . rw [KK,wa hb,gb,cV,hr]
   refine ⟨⟨by omega,by omega,rfl⟩,by simp [cG],?_⟩
   simpa [cG] using hk
end Go.Rip
namespace Go.Rip
open Go.Proofs Go.RowKit
theorem vq {L:List AV} {o:Nat} {c:AV} (h:L[o]?=some c) (r:List AV):∃ r',(L++r).drop o=c::r':=by
 have aO:=(c8.1 h).1
 rw [List.drop_append_of_le_length (by omega),gl aO]
 have:=(c8.1 h).2
 rw [this]
 exact ⟨_,rfl⟩
section
variable {U:St} {v:AV} {l:List Nd} {i o:Nat} {x:Nd} {c gv:AV} {k:AV->Prop} {K':AV->St->Prop} {Kp:AV->St->Prop}
theorem Lh (h:lC U v l) (hx:l[i]?=some x) (hc:(cG x)[o]?=some c) (hk:K' c U) :
 (aG (some (43,6)) none v (.int .i64 (i:Nat))).wp K U (fun p U=>(af (some o) p).wp K U (fun q U=>(ah (some (false,1)) q U).wp K U K' Kp) Kp) Kp:=by
 have aO:=(c8.1 hx).1
 obtain ⟨r,hr⟩:=uX hx
 obtain ⟨r',pU⟩:=vq hc r
 rcases h with (⟨rfl,rfl⟩ | ⟨cp,rfl⟩) | ⟨b,rfl,hb⟩
 . simp at aO
 . rw [CU,gb,hr]
   refine ⟨by omega,?_⟩
   simp only [cU,al,oB,pU,bE]
   exact hk
 . rw [EI,gb,cV]
   refine ⟨⟨by omega,by omega,rfl⟩,?_⟩
   simp only [bg,al]
   rw [fW hb,<- List.drop_drop,hr,pU,bE]
   exact hk
theorem Y2 (h:lC U v l) (hx:l[i]?=some x) (hc:(cG x)[o]?=some c) (hk:k c) :
 ax K (aG (some (43,6)) none v (.int .i64 (i:Nat))) fun p=>ax K (af (some o) p) fun q=>ax K (ah (some (false,1)) q U) k:=by
 have aO:=(c8.1 hx).1
 obtain ⟨r,hr⟩:=uX hx
 obtain ⟨r',pU⟩:=vq hc r
 rcases h with (⟨rfl,rfl⟩ | ⟨cp,rfl⟩) | ⟨b,rfl,hb⟩
 . simp at aO
 . rw [KJ,gb,hr]
   refine ⟨by omega,?_⟩
   simp only [cU,aC,l9,pU,fi]
   exact hk
 . rw [KK,gb,cV]
   refine ⟨⟨by omega,by omega,rfl⟩,?_⟩
   simp only [bg,aC]
   rw [pI hb,<- List.drop_drop,hr,pU,fi]
   exact hk
theorem qe {r:aD} (h:ax K r k):ai K (.bool true) r k:=by rw [aI,bQ]; exact h
theorem acM (h:lC U v l) (hx:l[i]?=some x) (hc:(cG x)[o]?=some c) (hk:k c) :
 ai K (.bool true) (aG (some (43,6)) none v (.int .i64 (i:Nat))) fun p=>ai K (.bool true) (af (some o) p) fun q=>ai K (.bool true) (ah (some (false,1)) q U) k:=by
 simp only [aI,bQ]
 exact Y2 h hx hc hk
theorem lF {x:AV} (hk:k x):ai K (.bool true) (.val x) k:=hk
end
structure eo (ao U:St) (v:AV) (e:TypeId) (sz n:Nat) (l:List AV):Prop where
 g:Grow U v e sz n l
 z:n=0->v=.aw
 t:VK ao v
 ex:cN ao U
section
variable {ao U:St} {v y:AV} {e:TypeId} {sz n m:Nat} {l l2:List AV} {K':AV->St->Prop} {Kp:AV->St->Prop}
theorem eo.nil (h:cN ao U):eo ao U .aw e sz 0 []:=⟨.inl ⟨rfl,rfl,rfl⟩,fun _=>rfl,(fun _ _ _ e=>by cases e),h⟩
theorem eo.mono {ad:St} (h:eo ao U v e sz n l) (k:cN U ad):eo ao ad v e sz n l:=by
 refine ⟨?_,h.z,h.t,h.ex.trans k⟩
 rcases h.g with g | ⟨τ,r1,r2,r3⟩
 . exact .inl g
 . exact .inr ⟨τ,r1,k.tok r2,r3⟩
theorem BZ (h:eo ao U v e sz n l) (hy:pO U y=some (m,l2)) (hl:l2.length=m * sz) (hm:0 < m) (hb:n+m <= 4294967296)
 (hk:∀ ad v',eo ao ad v' e sz (n+m) (l++l2)->(∀ b x,(∀ n l,v ≠ .vec n (.own b) l)->U.live b=some x->ad.live b=some x)->K' v' ad):(ez (some (e,sz)) false v y U).wp K U K' Kp:=by
 refine EF h.g hy hl hm hb h.z fun ad v' g e1 n1=>hk ad v' ⟨g,fun hz=>by omega,fun n' τ l' hv=>?_,fun b x hx=>?_⟩ e1
 . rcases n1 n' τ l' hv with hz | ⟨n2,l2',hx⟩
   . exact h.ex.fresh hz
   . exact h.t _ _ _ hx
 . exact e1 b x (fun n' l' hv=>by rw [h.t _ _ _ hv] at hx; cases hx) (h.ex b x hx)
theorem eo.sl (h:eo ao U v e sz n l):dA v n l:=by
 rcases h.g with ⟨h1,h2,h3⟩ | ⟨τ,r1,_,_⟩
 . exact .inl ⟨h1,h2,h3⟩
 . exact .inr ⟨_,r1⟩
theorem EG {e:TypeId} {x:AV} {z:AV} (hx:x.cQ=true) (hc:au x=[x]) (hk:K' (.vec 1 .full [x]) U):(aq (some (e,1)) (some [z]) 1 false [(0,x)]).wp K U K' Kp:=by
 rw [fN]
 refine ⟨by omega,?_⟩
 rw [ek (o:=0) (s:=1) rfl]
 refine ⟨⟨hx,by rw [hc]; rfl,by simp [bF]⟩,?_⟩
 rw [gI,hc]
 exact ⟨rfl,hk⟩
end
def dF (ks:List Nat):List AV:=ks.map fun k=>.int .i64 (k:Nat)
theorem Q7 {ks:List Nat} {i k:Nat} (h:ks[i]?=some k):∃ r,(dF ks).drop i=.int .i64 (k:Nat)::r:=by
 have aO:=(c8.1 h).1
 refine ⟨(dF ks).drop (i+1),?_⟩
 rw [gl (by simpa [dF] using aO)]
 have:=(c8.1 h).2
 simp [dF,this]
end Go.Rip
namespace Go.Rip
open Go.Proofs Go.RowKit
theorem nC (b:Bool):aH (.aF []) b=.bool false:=by cases b <;> rfl
end Go.Rip
namespace Go.Rip
open Go.Proofs Go.RowKit
def Sp {α:Type} (V:PR α) (bad:Bool) (i:Nat) (W:PR α):Prop:=if bad=true then V=.bad i else V=W
structure Own (r:Nat) (ao U:St) (nb:List (Nat × List AV)):Prop where
 own:∀ p ∈ nb,p.1 ≠ r/\U.box p.1=some p.2/\ao.live p.1=none
 IU:(nb.map Prod.fst).Nodup
structure S2 (X:Rx) (r:Nat) (ao:St) (V:PR (List Nd)) (bad:Bool) (i:Nat) (W:PR (List Nd)) (nb:List (Nat × List AV)) (U:St):Prop where
 A:fH r (rr X i bad) ao U
 hi:i <= X.L.length
 sp:Sp V bad i W
 own:Own r ao U nb
structure Qe (X:Rx) (r:Nat) (ao:St) (R:cA->St->Prop) (V:PR (List Nd)) (i0 c:Nat):Prop where
 ok:∀ ns j,V=.ok ns j->j <= X.L.length->∀ b ad,ao.live b=none->ad.box b=some (cH ns)->fH r (rr X j false) ao ad->R (.ret (.ms b 0 ns.length 6 43)) ad
 bad:∀ ns j,V=.bad j->i0 <= j->j <= X.L.length->ns.length <= 8 * (j - i0)+c->∀ b ad,ao.live b=none->ad.box b=some (cH ns)->fH r (rr X j true) ao ad->R (.ret (.ms b 0 ns.length 6 43)) ad
section
variable {r:Nat} {ao U ad:St} {nb:List (Nat × List AV)} {b:Nat} {l:List AV}
theorem Own.gO (h:Own r ao U nb) (e:jk r U ad):Own r ao ad nb :=
 ⟨fun p hp=>⟨(h.own p hp).1,e.aS (h.own p hp).1 (h.own p hp).2.1,(h.own p hp).2.2⟩,h.IU⟩
theorem Own.cons (h:Own r ao U nb) (e:jk r U ad) (hr:b ≠ r) (h0:ao.live b=none) (hn:U.live b=none) (hb:ad.box b=some l):Own r ao ad ((b,l)::nb):=by
 refine ⟨fun p hp=>?_,?_⟩
 . rcases cD.1 hp with rfl | hp
   . exact ⟨hr,hb,h0⟩
   . exact (h.gO e).own p hp
 . rw [dV,List.nodup_cons]
   refine ⟨fun hm=>?_,h.IU⟩
   obtain ⟨p,hp,rfl⟩:=List.mem_map.1 hm
   exact bG (h.own p hp).2.1 hn
theorem Own.ne {zy zz:List (Nat × List AV)} (h:Own r ao U (zy++(b,l)::zz)) {p:Nat × List AV} (hp:p ∈ zy\/p ∈ zz):p.1 ≠ b:=by
 have:=h.IU
 rw [List.map_append,dV,List.nodup_append] at this
 obtain ⟨h1,h2,h3⟩:=this
 rw [List.nodup_cons] at h2
 intro e
 rcases hp with hp | hp
 . exact h3 _ (List.mem_map_of_mem hp) _ (List.mem_cons_self ..) e
 . have hh:=List.mem_map_of_mem (f:=Prod.fst) hp
   rw [e] at hh
   exact h2.1 hh
theorem Own.gx {zy zz:List (Nat × List AV)} {l':List AV} (h:Own r ao U (zy++(b,l)::zz)) (hb:ad.box b=some l') (he:∀ b',b' ≠ b->ad.live b'=U.live b'):Own r ao ad (zy++(b,l')::zz):=by
 have g:=h.own (b,l) (by simp)
 refine ⟨fun p hp=>?_,?_⟩
 . rw [fB,cD] at hp
   have old:p ∈ zy\/p ∈ zz->p.1 ≠ r/\ad.box p.1=some p.2/\ao.live p.1=none:=fun hq=>by
    have g2:=h.own p (by rw [fB,cD]; rcases hq with hq | hq; exact .inl hq; exact .inr (.inr hq))
    exact ⟨g2.1,by rw [dP (he _ (h.ne hq))]; exact g2.2.1,g2.2.2⟩
   rcases hp with hp | rfl | hp
   . exact old (.inl hp)
   . exact ⟨g.1,hb,g.2.2⟩
   . exact old (.inr hp)
 . have:=h.IU; simpa using this
theorem Own.drop {zy zz:List (Nat × List AV)} (h:Own r ao U (zy++(b,l)::zz)):Own r ao U (zy++zz) :=
 ⟨fun p hp=>h.own p (by rw [fB] at hp ⊢; rcases hp with hp | hp; exact .inl hp; exact .inr (List.mem_cons_of_mem _ hp)),by
   have:=h.IU
   rw [List.map_append,dV] at this
   rw [List.map_append]
   exact this.sublist (List.Sublist.append (List.Sublist.refl _) (List.sublist_cons_self ..))⟩
end
section
variable {X:Rx} {r i:Nat} {bad:Bool} {ao U:St} {V W W':PR (List Nd)} {nb:List (Nat × List AV)} {R:cA->St->Prop} {K':AV->St->Prop} {Kp:AV->St->Prop} {w:aQ}
theorem S2.bd (S:S2 X r ao V true i W nb U):V=.bad i:=by have:=S.sp; simpa [Sp] using this
theorem S2.step {ad:St} {j:Nat} {Qk:Bool} (S:S2 X r ao V bad i W nb U) (A:fH r (rr X j Qk) U ad) (hj:j <= X.L.length) (h:Sp V Qk j W'):S2 X r ao V Qk j W' nb ad :=
 ⟨S.A.trans A,hj,h,S.own.gO A.ex⟩
theorem S2.zc {ad:St} (S:S2 X r ao V bad i W nb U) (e:cN U ad):S2 X r ao V bad i W nb ad :=
 S.step (.kr S.A.box e) S.hi S.sp
end
section
variable {X:Rx} {r i:Nat} {bad:Bool} {ao U:St} {V W W':PR (List Nd)} {nb:List (Nat × List AV)} {R:cA->St->Prop} {K':AV->St->Prop} {Kp:AV->St->Prop} {k:AV->Prop} {w:aQ}
theorem S2.same {ad:St} {b:Nat} {l:List AV} (S:S2 X r ao V bad i W nb U) (h:(b,l) ∈ nb) (e:jk r U ad):cg [b] U ad:=by
 intro c hc
 have hc:c=b:=by simpa using hc
 subst hc
 have g:=S.own.own _ h
 cases hx:U.live c with
 | none=>exact absurd hx (bG g.2.1)
 | some x=>exact e c x g.1 hx
end
end Go.Rip
namespace Go.Rip
open Go.Proofs Go.RowKit
def bx (kind:Int) (text:aQ) (n m at_:Int):List AV:=[.int .u8 kind,.str text,.int .i64 n,.int .i64 m,.int .i64 at_,.int .i64 0]
section
variable {X:Rx} {r i:Nat} {bad:Bool} {ao U:St} {V W W':PR (List Nd)} {nb zy zz:List (Nat × List AV)} {R:cA->St->Prop} {K':AV->St->Prop} {Q:St->Prop} {Kp:AV->St->Prop} {k:AV->Prop} {w:aQ} {kind n m at_:Int} {text:aQ} {bk:Nat}
theorem Qe.tail {i0 c:Nat} (O:Qe X r ao R V i0 c):Qe X r ao (ag (fun v U=>ak R v U) (aa R)) V i0 c :=
 ⟨fun ns j h hj b ad h1 h2 A=>ak.mk (O.ok ns j h hj b ad h1 h2 A),fun ns j h h0 hj hn b ad h1 h2 A=>ak.mk (O.bad ns j h h0 hj hn b ad h1 h2 A)⟩
theorem S2.new {b:Nat} {l:List AV} (S:S2 X r ao V bad i W nb U) (hf:U.cY b):S2 X r ao V bad i W ((b,l)::nb) (U.new b (.box l)):=by
 have bT:b ≠ r:=fun e=>bG S.A.box (e ▸ hf.1)
 exact ⟨S.A.trans (.kr S.A.box (a7 hf)),S.hi,S.sp,S.own.cons (a7 hf).LN bT (S.A.ex.fresh bT hf.1) hf.1 aK⟩
end
section
variable {X:Rx} {i:Nat}
end
end Go.Rip
namespace Go.Rip
open Go.Proofs Go.RowKit
theorem aaa {e:Nat} {z x:AV} {U:St} {K':AV->St->Prop} {Kp:AV->St->Prop} (hz:au z=[z]) (hx:x.cQ=true) (hc:au x=[x]) (h:K' (.vec 1 .full [x]) U):(aq (some (e,1)) (some [z]) 1 false [(0,x)]).wp K U K' Kp:=by
 rw [fN]
 refine ⟨by omega,?_⟩
 rw [ek (o:=0) (s:=1) rfl]
 refine ⟨⟨hx,by rw [hc]; rfl,by simp [bF]⟩,?_⟩
 rw [gI,hc]
 exact ⟨rfl,h⟩
theorem aab {e:Nat} {z x y:AV} {U:St} {K':AV->St->Prop} {Kp:AV->St->Prop} (hx:x.cQ=true) (hc:au x=[x]) (hy:y.cQ=true) (hd:au y=[y]) (h:K' (.vec 2 .full [x,y]) U):(aq (some (e,1)) (some [z]) 2 false [(0,x),(1,y)]).wp K U K' Kp:=by
 rw [fN]
 refine ⟨by omega,?_⟩
 rw [ek (o:=0) (s:=1) rfl]
 refine ⟨⟨hx,by rw [hc]; rfl,by simp [bF]⟩,?_⟩
 rw [ek (o:=1) (s:=1) rfl]
 refine ⟨⟨hy,by rw [hd]; rfl,by rw [hc]; simp [bF,aB]⟩,?_⟩
 rw [gI,hc,hd]
 exact ⟨rfl,h⟩
section
variable {X:Rx} {r i:Nat} {bad:Bool} {ao U:St} {V W W':PR (List Nd)} {nb nb':List (Nat × List AV)} {R:cA->St->Prop} {K':AV->St->Prop} {Kp:AV->St->Prop} {w:aQ}
theorem S2.sub (S:S2 X r ao V bad i W nb U) (h:nb'.Sublist nb):S2 X r ao V bad i W nb' U :=
 ⟨S.A,S.hi,S.sp,⟨fun p hp=>S.own.own p (h.subset hp),S.own.IU.sublist (h.map _)⟩⟩
end
section
variable {X:Rx} {i:Nat}
end
end Go.Rip
namespace Go.Rip
open Go.Proofs Go.RowKit
def Qd (v w:AV):Prop:=∀ τ n l n' l',v=.vec n (.own τ) l->w=.vec n' (.own τ) l'->False
theorem Qd.symm {v w:AV} (h:Qd v w):Qd w v:=fun τ n l n' l' h1 h2=>h τ n' l' n l h2 h1
theorem Grow.zc {U ad:St} {v:AV} {e sz n:Nat} {l:List AV} (g:Grow U v e sz n l) (h:cN U ad):Grow ad v e sz n l:=by
 rcases g with g | ⟨τ,h1,h2,h3⟩
 . exact .inl g
 . exact .inr ⟨τ,h1,h.tok h2,h3⟩
end Go.Rip
namespace Go.Rip
open Go.Proofs Go.RowKit
theorem SD {c:Prop} [Decidable c] {x:AV} {f:AV->aD} {q:Bool} {U:St} {K':AV->St->Prop} {Kp:AV->St->Prop} (hf:c->f x=.val (.bool q)) (hk:K' (.bool (decide c && q)) U) :
 ai K (aH (.bool (decide c)) true) (aD.val x) fun v6=>ai K (aH (.bool (decide c)) true) (f v6) fun v7=>(bp (.bool (decide c)) v7 (.bool false)).wp K U K' Kp:=by
 by_cases hc:c
 . simp only [hc,da,aU,gm,aI,bQ,aC,hf hc,aL,if_true,al]
   simpa [hc] using hk
 . simp only [hc,dN,aU,show (false == true)=false from rfl,aI,bV,aL,bJ,if_false,al]
   simpa [hc] using hk
theorem JL {p:Bool} {x:AV} {f:AV->aD} {q:Bool} {U:St} {K':AV->St->Prop} {Kp:AV->St->Prop} (hf:p=false->f x=.val (.bool q)) (hk:K' (.bool (p || q)) U) :
 ai K (aH (.bool p) false) (aD.val x) fun v6=>ai K (aH (.bool p) false) (f v6) fun v7=>(bp (.bool p) (.bool true) v7).wp K U K' Kp:=by
 cases p with
 | true =>
   simp only [aU,show (true == false)=false from rfl,aI,bV,aL,if_true,al]
   simpa using hk
 | false =>
   simp only [aU,gm,aI,bQ,aC,hf rfl,aL,bJ,if_false,al]
   simpa using hk
def JR (k:Int):Bool:=decide (k=6\/k=7\/k=12\/k=14\/k=25\/k=26)
def JS (k:Int):Bool:=decide (k=2\/k=3\/k=4\/k=5\/k=12\/k=13\/k=14\/k=16\/k=31\/k=32\/k=33\/k=34\/k=37)
end Go.Rip
namespace Go.Rip
open Go.Proofs Go.RowKit
def mA (ks:List Int):List AV:=ks.map (.int .u8)
theorem UN {ks:List Int} {i:Nat} {k:Int} (h:ks[i]?=some k):∃ r,(mA ks).drop i=.int .u8 k::r:=by
 have aO:=(c8.1 h).1
 refine ⟨(mA ks).drop (i+1),?_⟩
 rw [gl (by simpa [mA] using aO)]
 have:=(c8.1 h).2
 simp [mA,this]
section
variable {U:St} {v:AV} {ks:List Int} {i:Nat} {k:Int} {e:Nat} {K':AV->St->Prop} {Kp:AV->St->Prop} {kq:AV->Prop}
end
section
variable {v:AV} {ks:List Int}
end
end Go.Rip
namespace Go.Rip
open Go.Proofs Go.RowKit
def QI (k:Int) (ks:List Int):Bool:=match cx k with | some f=>eu ks f.kids | none=>false
theorem tR {k:Int} (h:k < 1\/37 < k):cx k=none:=by
 unfold cx
 repeat rw [if_neg (by omega)]
section
variable {U:St} {R:cA->St->Prop} {v:AV} {ks:List Int} {c:Prop} [Decidable c] {q:Bool} {f:FuncId} {Kp:AV->St->Prop} {K':AV->St->Prop} {Kp:AV->St->Prop}
end
end Go.Rip
namespace Go.Rip
open Go.Proofs Go.RowKit
section
variable {U:St} {bt:BT} {l:Bool} {k:IntKind} {a b:Int} {K':AV->St->Prop} {Kp:AV->St->Prop}
theorem B1 (h:K' (.bool (decide (a=b))) U):(ar .eql bt l (.int k a) (.int k b)).wp K U K' Kp:=by rw [bj]; exact h
theorem P8 (h:K' (.bool (!decide (a=b))) U):(ar .neq bt l (.int k a) (.int k b)).wp K U K' Kp:=by rw [c6]; exact h
theorem aae (h:K' (.bool (decide (b <= a))) U):(ar .geq bt l (.int k a) (.int k b)).wp K U K' Kp:=by rw [fO]; exact h
theorem P7 (h:K' (.bool (decide (b < a))) U):(ar .gtr bt l (.int k a) (.int k b)).wp K U K' Kp:=by rw [dO]; exact h
theorem df {A B:Prop} (h:A):av (.bool true) A B:=by rw [bH]; exact h
theorem cO {A B:Prop} (h:B):av (.bool false) A B:=by rw [bq]; exact h
theorem fI {p:Prop} [Decidable p] {A B:Prop} (h:p->A) (h':¬ p->B):av (.bool (decide p)) A B:=by rw [bR]; exact ⟨h,h'⟩
end
def Ch (x:Nd):Bool:=(JS x.kind == decide (x.text ≠ [])) && (!decide (x.text ≠ []) || mD x.text) && (if JR x.kind then fQ x.n else decide (x.n=0)) && (if x.kind=12 then fQ x.m else decide (x.m=0))
theorem Ec:∀ n:Fin 38,(match cx ((n.val:Nat):Int) with | some f=>f.text == JS (n.val:Nat) && f.n == JR (n.val:Nat) && f.m == decide (((n.val:Nat):Int)=12) | none=>true)=true:=by decide +kernel
theorem Fs {k:Int} {f:jK} (h:cx k=some f):f.text=JS k/\f.n=JR k/\f.m=decide (k=12):=by
 have hk:1 <= k/\k <= 37:=by
  by_cases h1:k < 1\/37 < k
  . rw [tR h1] at h; cases h
  . omega
 obtain ⟨n,rfl⟩:∃ n:Nat,k=n:=⟨k.toNat,by omega⟩
 have:=Ec ⟨n,by omega⟩
 simp only [h,bL,beq_iff_eq] at this
 exact ⟨this.1.1,this.1.2,this.2⟩
theorem C9 {x:Nd} {f:jK} (h:cx x.kind=some f):Ch x=jL x f:=by
 obtain ⟨h1,h2,h3⟩:=Fs h
 have z:fQ 0=true:=by simp [fQ]
 unfold Ch jL
 rw [<- h1,<- h2]
 have hm:(if x.kind=12 then fQ x.m else decide (x.m=0))=(if f.m=true then fQ x.m else decide (x.m=0)):=by
  rw [h3]; by_cases h:x.kind=12 <;> simp [h]
 rw [hm]
 have e0:(x.text != [])=decide (x.text ≠ []):=by
  by_cases h:x.text=[] <;> simp [h]
 rw [e0]
 by_cases ht:x.text=[]
 . have:mD []=false:=by decide
   cases f.text <;> cases f.n <;> cases f.m <;> by_cases hn:x.n=0 <;> by_cases Mt:x.m=0 <;> simp [ht,hn,Mt,z,this]
 . cases f.text <;> cases f.n <;> cases f.m <;> by_cases hn:x.n=0 <;> by_cases Mt:x.m=0 <;> simp [ht,hn,Mt,z]
end Go.Rip
namespace Go.Rip
open Go.Proofs Go.RowKit
theorem mr {f:FuncId} {args:List AV} {x:AV} {kq:AV->Prop} (h:Pure K f args x) (hk:kq x):ax K (aD.enter f args) kq:=⟨x,h,hk⟩
theorem gV {b o k:Nat} {kq:AV->Prop} (h:kq (.box b (o+k))):ax K (af (some k) (.box b o)) kq:=h
theorem Xv {b o k:Nat} {kq:AV->Prop} (h:kq (.box b (o+k))):ai K (.bool true) (af (some k) (.box b o)) kq:=h
theorem Xw {U:St} {b o:Nat} {L l:List AV} {x:AV} {kq:AV->Prop} (hb:U.box b=some L) (hd:L.drop o=x::l) (h:kq x):ai K (.bool true) (ah (some (false,1)) (.box b o) U) kq:=by rw [ld hb,hd]; exact h
theorem dX {U:St} {b o:Nat} {L l:List AV} {x:AV} {kq:AV->Prop} (hb:U.box b=some L) (hd:L.drop o=x::l) (h:kq x):ax K (ah (some (false,1)) (.box b o) U) kq:=by rw [ld hb,hd]; exact h
theorem dq {U τ:St} {b o:Nat} {L l:List AV} {x:AV} {K':AV->St->Prop} {Kp:AV->St->Prop} (hb:U.box b=some L) (hd:L.drop o=x::l) (h:K' x τ):(ah (some (false,1)) (.box b o) U).wp K τ K' Kp:=by rw [ld hb,hd]; exact h
end Go.Rip
namespace Go.Rip
open Go.Proofs Go.RowKit
def vP (x:Nd) (ks:List Int):Bool:=Ch x && QI x.kind ks
theorem Gp {k:Int} {t:aQ} {n m a:Int} {ks:List Tre} {x:Nd} (h1:x.kind=k) (h2:x.text=t) (h3:x.n=n) (h4:x.m=m):(Tre.mk k t n m a ks).ok=(vP x (ks.map Tre.kind) && Tre.sv ks):=by
 rw [Tre.ok]
 congr 1
 unfold vP QI
 rw [h1]
 cases hf:cx k with
 | none=>simp
 | some f =>
   rw [C9 (f:=f) (by rw [h1]; exact hf)]
   congr 1
   unfold jL
   simp only [h2,h3,h4]
theorem rI {l:List Nd}:∀ {ts:List Tre} {p q fh:Nat},kD l p ts->(cE p ts)[q]?=some fh->∃ u,ts[q]?=some u/\et l fh u
 | [],p,q,fh,h,hk=>by simp [cE] at hk
 | t::ts,p,0,fh,h,hk=>by simp [cE] at hk; subst hk; exact ⟨t,rfl,h.head⟩
 | t::ts,p,q+1,fh,h,hk=>by
   simp only [cE,List.getElem?_cons_succ] at hk
   obtain ⟨u,h1,h2⟩:=rI h.tail hk
   exact ⟨u,by simpa using h1,h2⟩
theorem Gu {l:List Nd}:∀ (N:Nat) (ts:List Tre) (p:Nat),(Tre.bA ts).length <= N->kD l p ts->(∀ j s x,p <= j->j < p+(Tre.bA ts).length->et l j s->l[j]?=some x->vP x (s.kids.map Tre.kind)=true)->Tre.sv ts=true
 | _,[],_,_,_,_=>by simp
 | 0,t::ts,_,hN,_,_=>by have:=t.dB; simp only [Tre.cW,dh] at hN; omega
 | N+1,.mk k tx n m a ks::ts,p,hN,h,bO=>by
   have Dg:(Tre.mk k tx n m a ks).flat.length=(Tre.bA ks).length+1:=lE (.mk k tx n m a ks)
   simp only [Tre.cW,dh] at hN bO
   rw [Tre.sw]
   obtain ⟨x,hx,h1,h2,h3,h4,h5,h6⟩:=h.head.mV
   rw [Gp (k:=k) (t:=tx) (n:=n) (m:=m) (x:=x) h1 h3 h4 h5]
   have e1:vP x (ks.map Tre.kind)=true:=bO p _ x (dk _) (by omega) h.head hx
   have e2:=Gu N ks (p+1) (by omega) h.head.kids fun j s y A7 sd=>bO j s y (by omega) (by omega)
   have e3:=Gu N ts (p+(Tre.flat (.mk k tx n m a ks)).length) (by omega) h.tail fun j s y A7 sd=>bO j s y (by omega) (by omega)
   rw [e1,e2,e3]; rfl
theorem ZA {t:Tre} (h:t.ok=true) {i:Nat} {s:Tre} (hs:et t.flat i s):s.ok=true:=by
 have hi:i < t.flat.length:=by have:=hs.le; have:=s.dB; omega
 obtain ⟨s',h1,h2⟩:=u6 (l:=t.flat) t.flat.length [t] 0 (by simp) ⟨[],by simp⟩ i (by omega) (by simpa using hi)
 rw [hs.inj h1]
 exact h2 (by simp [h])
theorem Rs {s:Tre} (h:s.ok=true) {l:List Nd} {i:Nat} {x:Nd} (hs:et l i s) (hx:l[i]?=some x):vP x (s.kids.map Tre.kind)=true:=by
 obtain ⟨y,hy,h1,h2,h3,h4,h5,h6⟩:=hs.mV
 rw [hx] at hy; cases hy
 cases s with
 | mk k tx n m a ks =>
   rw [Gp (k:=k) (t:=tx) (n:=n) (m:=m) (x:=x) h1 h3 h4 h5,bL] at h
   exact h.1
end Go.Rip
namespace Go.Rip
open Go.Proofs Go.RowKit
theorem Hg {U:St} {bt:BT} {l:Bool} {k:IntKind} {a b:Int} {A B:AV->St->Prop} {Kp:AV->St->Prop} (h:a < b->A (.bool true) U) (h':¬ a < b->B (.bool false) U):(ar .lss bt l (.int k a) (.int k b)).wp K U (fun v U=>av v (A v U) (B v U)) Kp:=by
 rw [bP,al]
 by_cases hc:a < b
 . simp only [hc,da]; exact df (h hc)
 . simp only [hc,dN]; exact cO (h' hc)
end Go.Rip
