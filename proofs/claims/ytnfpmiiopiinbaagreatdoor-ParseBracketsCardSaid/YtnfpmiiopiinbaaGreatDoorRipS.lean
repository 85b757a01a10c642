/- Lemmas for the proof: no conditions. -/
import Derived.Test.YtnfpmiiopiinbaaGreatDoorRipZz
import Derived.Test.YtnfpmiiopiinbaaGreatDoorRipQ
import Derived.Test.YtnfpmiiopiinbaaGreatDoorRipK
import Derived.Test.YtnfpmiiopiinbaaGreatDoorRipF
import Derived.Test.YtnfpmiiopiinbaaGreatDoorRipP
import Derived.Test.YtnfpmiiopiinbaaGreatDoorRipI
import Derived.Test.YtnfpmiiopiinbaaGreatDoorRipG
set_option linter.unusedVariables false
set_option linter.unusedSimpArgs false
set_option linter.loopingSimpArgs false
namespace Go.Rip
open Go.Proofs Go.RowKit
def rr (X:Rx) (i:Nat) (bad:Bool):List AV:=[X.tv,.int .i64 i,.bool bad]
section
variable {X:Rx} {r i:Nat} {bad:Bool} {U:St} {R:cV->St->Prop}
theorem qG {k:AV->Prop} {r:aC} {gv:AV} (hg:gv=.bool false) (h:k (.aK [])):ao K gv r k:=by rw[hg,aP,cN]; exact h
theorem ajp {k:AV->Prop} {x y:AV} (h:k y):az K (bN (.bool false) x y) k:=h
theorem ajo {k:AV->Prop} (h:k (.bool true)):az K (lj .not (.bool false)) k:=h
theorem yn {k:AV->Prop} {r:aC} {gv v:AV} (hg:gv=.bool true) (hr:r=.val v) (h:k v):ao K gv r k:=by rw[hg,hr]; exact h
end
end Go.Rip
namespace Go.Rip
open Go.Proofs Go.RowKit
def sj (U:St) (v:AV) (ns:List Nd):Prop:=((v=.ag/\ns=[])\/∃ c,v=.vec ns.length c (cg ns))\/∃ b,v=.ms b 0 ns.length 6 43/\U.box b=some (cg ns)
theorem sj.src {U:St} {v:AV} {ns:List Nd} (h:sj U v ns):pa U v=some (ns.length,cg ns):=by
 rcases h with (⟨rfl,rfl⟩|⟨c,rfl⟩)|⟨b,rfl,hb⟩
 . rfl
 . rfl
 . simp only[pa,hb,eG];rw[qg (by rw[mf]; omega)]
theorem sj.dw {U:St} {v:AV} {ns:List Nd} (h:sj U v ns):v.dw=true/\av v=[v]:=by
 rcases h with (⟨rfl,rfl⟩|⟨c,rfl⟩)|⟨b,rfl,hb⟩<;>exact⟨rfl,rfl⟩
section
variable {U:St} {R:cV->St->Prop}
end
end Go.Rip
namespace Go.Rip
open Go.Proofs Go.RowKit
theorem ae0 (x y:Nd):aw .neq (BT.mk false false false (some [.i,.s,.i,.i,.i,.i]) false) false (.agg (dA x)) (.agg (dA y))=.val (.bool (!decide (x=y))):=by
 have:Zk (some [.i,.s,.i,.i,.i,.i]) (dA x) (dA y)=some (decide (x=y)):=by
  cases x; cases y;simp[Zk,dA,qF]
  grind
 simp only[aw,this,xH]
theorem sj.len {U:St} {v:AV} {l:List Nd} (h:sj U v l):cr (some false) v=.val (.int .i64 l.length):=by
 rcases h with (⟨rfl,rfl⟩|⟨c,rfl⟩)|⟨b,rfl,hb⟩<;>rfl
theorem sj.nd {U:St} {v:AV} {l:List Nd} {i:Nat} {x:Nd} {k:AV->Prop} (h:sj U v l) (hx:l[i]?=some x) (hk:k (.agg (dA x))) :
 az K (aE (some (43,6)) none v (.int .i64 (i:Nat))) λ p=>az K (ak (some (true,6)) p U) k:=by
 have aN:=(dp.1 hx).1;obtain⟨r,hr⟩:=Gu hx;rcases h with (⟨rfl,rfl⟩|⟨c,rfl⟩)|⟨b,rfl,hb⟩
 . simp at aN
 . rw[LA,fW,hr,OS];refine⟨by omega,by simp[dA],?_⟩;simpa [dA] using hk
 . rw[Cr,zA hb,fW,db,hr];refine⟨⟨by omega,by omega,rfl⟩,by simp[dA],?_⟩;simpa [dA] using hk
theorem ace {U:St} {v1 v2:AV} {l1 l2:List Nd} {R:cV->St->Prop} (h1:sj U v1 l1) (h2:sj U v2 l2) (Hu:l1.length<=1000000) (pP:l2.length<=1000000) (h:R (.ret (.bool (decide (l1=l2)))) U):ae K 47 [v1,v2] U R:=by
 refine Yk ?_;unfold aap;simp only[h1.len,h2.len,al,c8]
 by_cases hl:l1.length=l2.length
 . have:((l1.length:Int)=l2.length):=by omega
   simp only[this,dG,dm,bq];refine⟨λ m w1 w2 v5 ad=>∃ i:Nat,m=l1.length-i/\i<=l1.length/\w1=v1/\w2=v2/\v5=.int .i64 (i:Nat)/\ad=U/\∀ j,j<i->l1[j]?=l2[j]?,⟨_,0,rfl,by omega,rfl,rfl,rfl,rfl,λ j hj=>by omega⟩,?_⟩;rintro m w1 w2 v5 ad ⟨i,rfl,hi,rfl,rfl,rfl,rfl,heq⟩;simp only[h1.len,bV,al,cq];refine⟨λ aN=>?_,λ kV=>?_⟩
   . have aN:i<l1.length:=by omega
     obtain⟨x,hx⟩:∃ x,l1[i]?=some x:=⟨l1[i],by simp[aN]⟩;obtain⟨y,hy⟩:∃ y,l2[i]?=some y:=⟨l2[i],by simp⟩;refine h1.nd hx ?_;refine h2.nd hy ?_;rw[ae0];simp only[aJ]
     by_cases C1:x=y
     . simp only[C1,dG,dm,bq,dO];refine⟨bI (by omega) (by omega),l1.length-(i+1),by omega,i+1,rfl,by omega,rfl,rfl,by simp,rfl,λ j hj=>?_⟩;rcases kI j i with h|h
       . exact heq j h
       . have:j=i:=by omega
         subst this; rw[hx,hy,C1]
     . simp only[C1,eS,fx,bH];refine aq.eq h ?_;have:l1≠l2:=λ e=>C1 (by rw[e,hy]at hx; cases hx; rfl);simp[this]
   . refine aq.eq h ?_;have:l1=l2:=List.ext_getElem? λ j=>by
      rcases kI j i with h|h
      . exact heq j h
      . rw[vT (by omega),vT (by omega)]
     simp[this]
 . have:¬ ((l1.length:Int)=l2.length):=by omega
   simp only[this,eS,fx,bH];refine aq.eq h ?_;have:l1≠l2:=λ e=>hl (by rw[e]);simp[this]
end Go.Rip
namespace Go.Rip
open Go.Proofs Go.RowKit
theorem J1 {L:List AV} {o:Nat} {c:AV} (h:L[o]?=some c) (r:List AV):∃ r',(L++r).drop o=c::r':=by
 have aN:=(dp.1 h).1;rw[List.drop_append_of_le_length (by omega),gM aN];have:=(dp.1 h).2;rw[this];exact⟨_,rfl⟩
section
variable {U:St} {v:AV} {l:List Nd} {i o:Nat} {x:Nd} {c gv:AV} {k:AV->Prop} {K':AV->St->Prop} {Kp:AV->St->Prop}
theorem Y9 (h:sj U v l) (hx:l[i]?=some x) (hc:(dA x)[o]?=some c) (hk:K' c U) :
 (aE (some (43,6)) none v (.int .i64 (i:Nat))).wp K U (λ p U=>(af (some o) p).wp K U (λ q U=>(ak (some (false,1)) q U).wp K U K' Kp) Kp) Kp:=by
 have aN:=(dp.1 hx).1;obtain⟨r,hr⟩:=Gu hx;obtain⟨r',Ac⟩:=J1 hc r;rcases h with (⟨rfl,rfl⟩|⟨cp,rfl⟩)|⟨b,rfl,hb⟩
 . simp at aN
 . rw[zN,fW,hr];refine⟨by omega,?_⟩;simp only[dC,al,oK,Ac,bC];exact hk
 . rw[CC,fW,db];refine⟨⟨by omega,by omega,rfl⟩,?_⟩;simp only[bh,al];rw[il hb,<- List.drop_drop,hr,Ac,bC];exact hk
theorem tI {r:aC} (h:az K r k):ao K (.bool true) r k:=by rw[aP,cB]; exact h
theorem oV {x:AV} (hk:k x):ao K (.bool true) (.val x) k:=hk
end
structure iV (ar U:St) (v:AV) (e:TypeId) (sz n:Nat) (l:List AV):Prop where
 g:Grow U v e sz n l
 z:n=0->v=.ag
 t:acz ar v
 ex:cX ar U
section
variable {ar U:St} {v y:AV} {e:TypeId} {sz n m:Nat} {l l2:List AV} {K':AV->St->Prop} {Kp:AV->St->Prop}
theorem iV.nil (h:cX ar U):iV ar U .ag e sz 0 []:=⟨.inl ⟨rfl,rfl,rfl⟩,λ _=>rfl,(λ _ _ _ e=>by cases e),h⟩
theorem iV.mono {ad:St} (h:iV ar U v e sz n l) (k:cX U ad):iV ar ad v e sz n l:=by
 refine⟨?_,h.z,h.t,h.ex.trans k⟩;rcases h.g with g|⟨τ,r1,r2,r3⟩
 . exact .inl g
 . exact .inr ⟨τ,r1,k.tok r2,r3⟩
theorem FN (h:iV ar U v e sz n l) (hy:pa U y=some (m,l2)) (hl:l2.length=m*sz) (hm:0<m) (hb:n+m<=4294967296)
 (hk:∀ ad v',iV ar ad v' e sz (n+m) (l++l2)->(∀ b x,(∀ n l,v≠.vec n (.own b) l)->U.live b=some x->ad.live b=some x)->K' v' ad):(dB (some (e,sz)) false v y U).wp K U K' Kp:=by
 refine FM h.g hy hl hm hb h.z λ ad v' g e1 n1=>hk ad v' ⟨g,λ hz=>by omega,λ n' τ l' hv=>?_,λ b x hx=>?_⟩ e1
 . rcases n1 n' τ l' hv with hz|⟨n2,l2',hx⟩
   . exact h.ex.fresh hz
   . exact h.t _ _ _ hx
 . exact e1 b x (λ n' l' hv=>by rw[h.t _ _ _ hv]at hx; cases hx) (h.ex b x hx)
theorem iV.sl (h:iV ar U v e sz n l):eW v n l:=by
 rcases h.g with ⟨h1,h2,h3⟩|⟨τ,r1,_,_⟩
 . exact .inl ⟨h1,h2,h3⟩
 . exact .inr ⟨_,r1⟩
theorem Jw {e:TypeId} {x:AV} {z:AV} (hx:x.dw=true) (hc:av x=[x]) (hk:K' (.vec 1 .full [x]) U):(au (some (e,1)) (some [z]) 1 false [(0,x)]).wp K U K' Kp:=by
 rw[hZ];refine⟨by omega,?_⟩;rw[ff (o:=0) (s:=1) rfl];refine⟨⟨hx,by rw[hc]; rfl,by simp[bT]⟩,?_⟩;rw[ja,hc];exact⟨rfl,hk⟩
end
def iX (ks:List Nat):List AV:=ks.map λ k=>.int .i64 (k:Nat)
theorem Xy {ks:List Nat} {i k:Nat} (h:ks[i]?=some k):∃ r,(iX ks).drop i=.int .i64 (k:Nat)::r:=by
 have aN:=(dp.1 h).1;refine⟨(iX ks).drop (i+1),?_⟩;rw[gM (by simpa [iX] using aN)];have:=(dp.1 h).2;simp[iX,this]
end Go.Rip
namespace Go.Rip
open Go.Proofs Go.RowKit
theorem rV (b:Bool):aM (.aK []) b=.bool false:=by cases b<;>rfl
end Go.Rip
namespace Go.Rip
open Go.Proofs Go.RowKit
def Sp {α:Type} (V:PR α) (bad:Bool) (i:Nat) (W:PR α):Prop:=if bad=true then V=.bad i else V=W
structure Own (r:Nat) (ar U:St) (nb:List (Nat×List AV)):Prop where
 own:∀ p∈nb,p.1≠r/\U.box p.1=some p.2/\ar.live p.1=none
 nod:(nb.map Prod.fst).Nodup
structure S2 (X:Rx) (r:Nat) (ar:St) (V:PR (List Nd)) (bad:Bool) (i:Nat) (W:PR (List Nd)) (nb:List (Nat×List AV)) (U:St):Prop where
 A:iD r (rr X i bad) ar U
 hi:i<=X.L.length
 sp:Sp V bad i W
 own:Own r ar U nb
section
variable {r:Nat} {ar U ad:St} {nb:List (Nat×List AV)} {b:Nat} {l:List AV}
theorem Own.jR (h:Own r ar U nb) (e:l8 r U ad):Own r ar ad nb :=
 ⟨λ p hp=>⟨(h.own p hp).1,e.aY (h.own p hp).1 (h.own p hp).2.1,(h.own p hp).2.2⟩,h.nod⟩
theorem Own.cons (h:Own r ar U nb) (e:l8 r U ad) (hr:b≠r) (h0:ar.live b=none) (hn:U.live b=none) (hb:ad.box b=some l):Own r ar ad ((b,l)::nb):=by
 refine⟨λ p hp=>?_,?_⟩
 . rcases cK.1 hp with rfl|hp
   . exact⟨hr,hb,h0⟩
   . exact (h.jR e).own p hp
 . rw[dH,List.nodup_cons];refine⟨λ hm=>?_,h.nod⟩;obtain⟨p,hp,rfl⟩:=List.mem_map.1 hm;exact ct (h.own p hp).2.1 hn
theorem Own.drop {nb1 OC:List (Nat×List AV)} (h:Own r ar U (nb1++(b,l)::OC)):Own r ar U (nb1++OC) :=
 ⟨λ p hp=>h.own p (by rw[fT]at hp ⊢; rcases hp with hp|hp; exact .inl hp; exact .inr (List.mem_cons_of_mem _ hp)),by
   have:=h.nod;rw[List.map_append,dH]at this;rw[List.map_append];exact this.sublist (List.Sublist.append (List.Sublist.refl _) (List.sublist_cons_self ..))⟩
end
section
variable {X:Rx} {r i:Nat} {bad:Bool} {ar U:St} {V W W':PR (List Nd)} {nb:List (Nat×List AV)} {R:cV->St->Prop} {K':AV->St->Prop} {Kp:AV->St->Prop} {w:aG}
end
section
variable {X:Rx} {r i:Nat} {bad:Bool} {ar U:St} {V W W':PR (List Nd)} {nb:List (Nat×List AV)} {R:cV->St->Prop} {K':AV->St->Prop} {Kp:AV->St->Prop} {k:AV->Prop} {w:aG}
end
end Go.Rip
namespace Go.Rip
open Go.Proofs Go.RowKit
def bx (kind:Int) (text:aG) (n m at_:Int):List AV:=[.int .u8 kind,.str text,.int .i64 n,.int .i64 m,.int .i64 at_,.int .i64 0]
section
variable {X:Rx} {r i:Nat} {bad:Bool} {ar U:St} {V W W':PR (List Nd)} {nb nb1 OC:List (Nat×List AV)} {R:cV->St->Prop} {K':AV->St->Prop} {Q:St->Prop} {Kp:AV->St->Prop} {k:AV->Prop} {w:aG} {kind n m at_:Int} {text:aG} {bk:Nat}
theorem S2.new {b:Nat} {l:List AV} (S:S2 X r ar V bad i W nb U) (hf:U.dL b):S2 X r ar V bad i W ((b,l)::nb) (U.new b (.box l)):=by
 have ca:b≠r:=λ e=>ct S.A.box (e▸hf.1);exact⟨S.A.trans (.nS S.A.box (bg hf)),S.hi,S.sp,S.own.cons (bg hf).J5 ca (S.A.ex.fresh ca hf.1) hf.1 aD⟩
end
section
variable {X:Rx} {i:Nat}
end
end Go.Rip
namespace Go.Rip
open Go.Proofs Go.RowKit
theorem afU {e:Nat} {z x:AV} {U:St} {K':AV->St->Prop} {Kp:AV->St->Prop} (hz:av z=[z]) (hx:x.dw=true) (hc:av x=[x]) (h:K' (.vec 1 .full [x]) U):(au (some (e,1)) (some [z]) 1 false [(0,x)]).wp K U K' Kp:=by
 rw[hZ];refine⟨by omega,?_⟩;rw[ff (o:=0) (s:=1) rfl];refine⟨⟨hx,by rw[hc]; rfl,by simp[bT]⟩,?_⟩;rw[ja,hc];exact⟨rfl,h⟩
theorem afV {e:Nat} {z x y:AV} {U:St} {K':AV->St->Prop} {Kp:AV->St->Prop} (hx:x.dw=true) (hc:av x=[x]) (hy:y.dw=true) (hd:av y=[y]) (h:K' (.vec 2 .full [x,y]) U):(au (some (e,1)) (some [z]) 2 false [(0,x),(1,y)]).wp K U K' Kp:=by
 rw[hZ];refine⟨by omega,?_⟩;rw[ff (o:=0) (s:=1) rfl];refine⟨⟨hx,by rw[hc]; rfl,by simp[bT]⟩,?_⟩;rw[ff (o:=1) (s:=1) rfl];refine⟨⟨hy,by rw[hd]; rfl,by rw[hc]; simp[bT,ay]⟩,?_⟩;rw[ja,hc,hd];exact⟨rfl,h⟩
section
variable {X:Rx} {r i:Nat} {bad:Bool} {ar U:St} {V W W':PR (List Nd)} {nb nb':List (Nat×List AV)} {R:cV->St->Prop} {K':AV->St->Prop} {Kp:AV->St->Prop} {w:aG}
end
section
variable {X:Rx} {i:Nat}
end
end Go.Rip
namespace Go.Rip
open Go.Proofs Go.RowKit
def Ww (v w:AV):Prop:=∀ τ n l n' l',v=.vec n (.own τ) l->w=.vec n' (.own τ) l'->False
theorem Ww.symm {v w:AV} (h:Ww v w):Ww w v:=λ τ n l n' l' h1 h2=>h τ n' l' n l h2 h1
end Go.Rip
namespace Go.Rip
open Go.Proofs Go.RowKit
theorem Zm {c:Prop} [Decidable c] {x:AV} {f:AV->aC} {q:Bool} {U:St} {K':AV->St->Prop} {Kp:AV->St->Prop} (hf:c->f x=.val (.bool q)) (hk:K' (.bool (decide c&&q)) U) :
 ao K (aM (.bool (decide c)) true) (aC.val x) λ v6=>ao K (aM (.bool (decide c)) true) (f v6) λ v7=>(bN (.bool (decide c)) v7 (.bool false)).wp K U K' Kp:=by
 by_cases hc:c
 . simp only[hc,dG,bo,iY,aP,cB,aJ,hf hc,aQ,if_true,al];simpa [hc] using hk
 . simp only[hc,eS,bo,show (false==true)=false from rfl,aP,cN,aQ,bZ,if_false,al];simpa [hc] using hk
theorem PL {p:Bool} {x:AV} {f:AV->aC} {q:Bool} {U:St} {K':AV->St->Prop} {Kp:AV->St->Prop} (hf:p=false->f x=.val (.bool q)) (hk:K' (.bool (p||q)) U) :
 ao K (aM (.bool p) false) (aC.val x) λ v6=>ao K (aM (.bool p) false) (f v6) λ v7=>(bN (.bool p) (.bool true) v7).wp K U K' Kp:=by
 cases p with
 | true =>
   simp only[bo,show (true==false)=false from rfl,aP,cN,aQ,if_true,al];simpa using hk
 | false =>
   simp only[bo,iY,aP,cB,aJ,hf rfl,aQ,bZ,if_false,al];simpa using hk
def PQ (k:Int):Bool:=decide (k=6\/k=7\/k=12\/k=14\/k=25\/k=26)
def PT (k:Int):Bool:=decide (k=2\/k=3\/k=4\/k=5\/k=12\/k=13\/k=14\/k=16\/k=31\/k=32\/k=33\/k=34\/k=37)
end Go.Rip
namespace Go.Rip
open Go.Proofs Go.RowKit
def pG (ks:List Int):List AV:=ks.map (.int .u8)
theorem abB {ks:List Int} {i:Nat} {k:Int} (h:ks[i]?=some k):∃ r,(pG ks).drop i=.int .u8 k::r:=by
 have aN:=(dp.1 h).1;refine⟨(pG ks).drop (i+1),?_⟩;rw[gM (by simpa [pG] using aN)];have:=(dp.1 h).2;simp[pG,this]
section
variable {U:St} {v:AV} {ks:List Int} {i:Nat} {k:Int} {e:Nat} {K':AV->St->Prop} {Kp:AV->St->Prop} {kq:AV->Prop}
end
section
variable {v:AV} {ks:List Int}
end
end Go.Rip
namespace Go.Rip
open Go.Proofs Go.RowKit
def W6 (k:Int) (ks:List Int):Bool:=match bG k with|some f=>ep ks f.kids|none=>false
theorem xk {k:Int} (h:k<1\/37<k):bG k=none:=by
 unfold bG
 repeat rw[if_neg (by omega)]
section
variable {U:St} {R:cV->St->Prop} {v:AV} {ks:List Int} {c:Prop} [Decidable c] {q:Bool} {f:FuncId} {Kp:AV->St->Prop} {K':AV->St->Prop} {Kp:AV->St->Prop}
end
end Go.Rip
namespace Go.Rip
open Go.Proofs Go.RowKit
section
variable {U:St} {bt:BT} {l:Bool} {k:IntKind} {a b:Int} {K':AV->St->Prop} {Kp:AV->St->Prop}
theorem FO (h:K' (.bool (decide (a=b))) U):(aw .eql bt l (.int k a) (.int k b)).wp K U K' Kp:=by rw[bA]; exact h
theorem Mw (h:K' (.bool (!decide (a=b))) U):(aw .neq bt l (.int k a) (.int k b)).wp K U K' Kp:=by rw[c8]; exact h
theorem afX (h:K' (.bool (decide (b<=a))) U):(aw .geq bt l (.int k a) (.int k b)).wp K U K' Kp:=by rw[jc]; exact h
theorem dz {A B:Prop} (h:A):ax (.bool true) A B:=by rw[bH]; exact h
theorem cY {A B:Prop} (h:B):ax (.bool false) A B:=by rw[bq]; exact h
theorem ic {p:Prop} [Decidable p] {A B:Prop} (h:p->A) (h':¬ p->B):ax (.bool (decide p)) A B:=by rw[cq]; exact⟨h,h'⟩
end
def Gb (x:Nd):Bool:=(PT x.kind==decide (x.text≠[]))&&(!decide (x.text≠[])||kH x.text)&&(if PQ x.kind then dV x.n else decide (x.n=0))&&(if x.kind=12 then dV x.m else decide (x.m=0))
theorem IV:∀ n:Fin 38,(match bG ((n.val:Nat):Int) with|some f=>f.text==PT (n.val:Nat)&&f.n==PQ (n.val:Nat)&&f.m==decide (((n.val:Nat):Int)=12)|none=>true)=true:=by decide +kernel
theorem Kf {k:Int} {f:gS} (h:bG k=some f):f.text=PT k/\f.n=PQ k/\f.m=decide (k=12):=by
 have hk:1<=k/\k<=37:=by
  by_cases h1:k<1\/37<k
  . rw[xk h1]at h; cases h
  . omega
 obtain⟨n,rfl⟩:∃ n:Nat,k=n:=⟨k.toNat,by omega⟩;have:=IV ⟨n,by omega⟩;simp only[h,cb,beq_iff_eq]at this;exact⟨this.1.1,this.1.2,this.2⟩
theorem Hj {x:Nd} {f:gS} (h:bG x.kind=some f):Gb x=eF x f:=by
 obtain⟨h1,h2,h3⟩:=Kf h;have z:dV 0=true:=by simp[dV]
 unfold Gb eF;rw[<- h1,<- h2];have hm:(if x.kind=12 then dV x.m else decide (x.m=0))=(if f.m=true then dV x.m else decide (x.m=0)):=by
  rw[h3]; by_cases h:x.kind=12<;>simp[h]
 rw[hm];have e0:(x.text != [])=decide (x.text≠[]):=by
  by_cases h:x.text=[]<;>simp[h]
 rw[e0]
 by_cases ht:x.text=[]
 . have:kH []=false:=by decide
   cases f.text<;>cases f.n<;>cases f.m<;>by_cases hn:x.n=0<;>by_cases SC:x.m=0<;>simp[ht,hn,SC,z,this]
 . cases f.text<;>cases f.n<;>cases f.m<;>by_cases hn:x.n=0<;>by_cases SC:x.m=0<;>simp[ht,hn,SC,z]
end Go.Rip
namespace Go.Rip
open Go.Proofs Go.RowKit
theorem oz {f:FuncId} {args:List AV} {x:AV} {kq:AV->Prop} (h:Pure K f args x) (hk:kq x):az K (aC.enter f args) kq:=⟨x,h,hk⟩
theorem jL {b o k:Nat} {kq:AV->Prop} (h:kq (.box b (o+k))):az K (af (some k) (.box b o)) kq:=h
theorem ael {b o k:Nat} {kq:AV->Prop} (h:kq (.box b (o+k))):ao K (.bool true) (af (some k) (.box b o)) kq:=h
theorem aem {U:St} {b o:Nat} {L l:List AV} {x:AV} {kq:AV->Prop} (hb:U.box b=some L) (hd:L.drop o=x::l) (h:kq x):ao K (.bool true) (ak (some (false,1)) (.box b o) U) kq:=by rw[ld hb,hd]; exact h
theorem eZ {U:St} {b o:Nat} {L l:List AV} {x:AV} {kq:AV->Prop} (hb:U.box b=some L) (hd:L.drop o=x::l) (h:kq x):az K (ak (some (false,1)) (.box b o) U) kq:=by rw[ld hb,hd]; exact h
theorem ej {U τ:St} {b o:Nat} {L l:List AV} {x:AV} {K':AV->St->Prop} {Kp:AV->St->Prop} (hb:U.box b=some L) (hd:L.drop o=x::l) (h:K' x τ):(ak (some (false,1)) (.box b o) U).wp K τ K' Kp:=by rw[ld hb,hd]; exact h
end Go.Rip
namespace Go.Rip
open Go.Proofs Go.RowKit
def zl (x:Nd) (ks:List Int):Bool:=Gb x&&W6 x.kind ks
theorem Lm {k:Int} {t:aG} {n m a:Int} {ks:List Tre} {x:Nd} (h1:x.kind=k) (h2:x.text=t) (h3:x.n=n) (h4:x.m=m):(Tre.mk k t n m a ks).ok=(zl x (ks.map Tre.kind)&&Tre.uo ks):=by
 rw[Tre.ok];congr 1;unfold zl W6;rw[h1];cases hf:bG k with
 | none=>simp
 | some f =>
   rw[Hj (f:=f) (by rw[h1]; exact hf)];congr 1;unfold eF;simp only[h2,h3,h4]
theorem zJ {l:List Nd}:∀ {ts:List Tre} {p q kg:Nat},sk l p ts->(fK p ts)[q]?=some kg->∃ u,ts[q]?=some u/\gT l kg u
 | [],p,q,kg,h,hk=>by simp[fK]at hk
 | t::ts,p,0,kg,h,hk=>by simp[fK]at hk; subst hk; exact⟨t,rfl,h.head⟩
 | t::ts,p,q+1,kg,h,hk=>by
   simp only[fK,List.getElem?_cons_succ]at hk;obtain⟨u,h1,h2⟩:=zJ h.tail hk;exact⟨u,by simpa using h1,h2⟩
theorem Lr {l:List Nd}:∀ (N:Nat) (ts:List Tre) (p:Nat),(Tre.bu ts).length<=N->sk l p ts->(∀ j s x,p<=j->j<p+(Tre.bu ts).length->gT l j s->l[j]?=some x->zl x (s.kids.map Tre.kind)=true)->Tre.uo ts=true
 | _,[],_,_,_,_=>by simp
 | 0,t::ts,_,hN,_,_=>by have:=t.dJ; simp only[Tre.cM,cO]at hN; omega
 | N+1,.mk k tx n m a ks::ts,p,hN,h,ck=>by
   have CQ:(Tre.mk k tx n m a ks).flat.length=(Tre.bu ks).length+1:=nI (.mk k tx n m a ks);simp only[Tre.cM,cO]at hN ck;rw[Tre.tG];obtain⟨x,hx,h1,h2,h3,h4,h5,h6⟩:=h.head.sn;rw[Lm (k:=k) (t:=tx) (n:=n) (m:=m) (x:=x) h1 h3 h4 h5];have e1:zl x (ks.map Tre.kind)=true:=ck p _ x (bX _) (by omega) h.head hx;have e2:=Lr N ks (p+1) (by omega) h.head.kids λ j s y s9 pN=>ck j s y (by omega) (by omega);have e3:=Lr N ts (p+(Tre.flat (.mk k tx n m a ks)).length) (by omega) h.tail λ j s y s9 pN=>ck j s y (by omega) (by omega);rw[e1,e2,e3]; rfl
theorem afx {t:Tre} (h:t.ok=true) {i:Nat} {s:Tre} (hs:gT t.flat i s):s.ok=true:=by
 have hi:i<t.flat.length:=by have:=hs.le; have:=s.dJ; omega
 obtain⟨s',h1,h2⟩:=yu (l:=t.flat) t.flat.length [t] 0 (by simp) ⟨[],by simp⟩ i (by omega) (by simpa using hi);rw[hs.inj h1];exact h2 (by simp[h])
theorem XQ {s:Tre} (h:s.ok=true) {l:List Nd} {i:Nat} {x:Nd} (hs:gT l i s) (hx:l[i]?=some x):zl x (s.kids.map Tre.kind)=true:=by
 obtain⟨y,hy,h1,h2,h3,h4,h5,h6⟩:=hs.sn;rw[hx]at hy; cases hy;cases s with
 | mk k tx n m a ks =>
   rw[Lm (k:=k) (t:=tx) (n:=n) (m:=m) (x:=x) h1 h3 h4 h5,cb]at h;exact h.1
end Go.Rip
namespace Go.Rip
open Go.Proofs Go.RowKit
theorem Mv {U:St} {bt:BT} {l:Bool} {k:IntKind} {a b:Int} {A B:AV->St->Prop} {Kp:AV->St->Prop} (h:a<b->A (.bool true) U) (h':¬ a<b->B (.bool false) U):(aw .lss bt l (.int k a) (.int k b)).wp K U (λ v U=>ax v (A v U) (B v U)) Kp:=by
 rw[bV,al]
 by_cases hc:a<b
 . simp only[hc,dG]; exact dz (h hc)
 . simp only[hc,eS]; exact cY (h' hc)
end Go.Rip
