/- Lemmas for the proof: no conditions. -/
import Derived.Test.YtnfpmiiopiinbaaGreatDoorRipZz
import Derived.Test.YtnfpmiiopiinbaaGreatDoorRipQ
import Derived.Test.YtnfpmiiopiinbaaGreatDoorRipK
import Derived.Test.YtnfpmiiopiinbaaGreatDoorRipF
import Derived.Test.YtnfpmiiopiinbaaGreatDoorRipP
import Derived.Test.YtnfpmiiopiinbaaGreatDoorRipI
import Derived.Test.YtnfpmiiopiinbaaGreatDoorRipG
set_option linter.unusedVariables false
set_option linter.unusedSimpArgs false
set_option linter.loopingSimpArgs false
namespace Go.Rip
open Go.Proofs Go.RowKit
def rr (X:Rx) (i:Nat) (bad:Bool):List AV:=[X.tv,.int .i64 i,.bool bad]
section
variable {X:Rx} {r i:Nat} {bad:Bool} {U:St} {R:cM->St->Prop}
theorem eM {k:AV->Prop} {r:ay} {gv:AV} (hg:gv=.bool false) (h:k (.aQ [])):af K gv r k:=by rw[hg,aP,cz]; exact h
theorem fG {k:AV->Prop} {r:ay} {gv v:AV} (hg:gv=.bool true) (hr:r=.val v) (h:k v):af K gv r k:=by rw[hg,hr]; exact h
end
end Go.Rip
namespace Go.Rip
open Go.Proofs Go.RowKit
def mY (U:St) (v:AV) (ns:List Nd):Prop:=((v=.ag/\ns=[])\/∃ c,v=.vec ns.length c (cb ns))\/∃ b,v=.ms b 0 ns.length 6 43/\U.box b=some (cb ns)
theorem mY.src {U:St} {v:AV} {ns:List Nd} (h:mY U v ns):qo U v=some (ns.length,cb ns):=by
 rcases h with (⟨rfl,rfl⟩|⟨c,rfl⟩)|⟨b,rfl,hb⟩
 . rfl
 . rfl
 . simp only[qo,hb,dN];rw[zl (by rw[nH]; omega)]
theorem mY.cA {U:St} {v:AV} {ns:List Nd} (h:mY U v ns):v.cA=true/\au v=[v]:=by
 rcases h with (⟨rfl,rfl⟩|⟨c,rfl⟩)|⟨b,rfl,hb⟩<;>exact⟨rfl,rfl⟩
end Go.Rip
namespace Go.Rip
open Go.Proofs Go.RowKit
theorem WJ (x y:Nd):aw .neq (BT.mk false false false (some [.i,.s,.i,.i,.i,.i]) false) false (.agg (df x)) (.agg (df y))=.val (.bool (!decide (x=y))):=by
 have:Q1 (some [.i,.s,.i,.i,.i,.i]) (df x) (df y)=some (decide (x=y)):=by
  cases x; cases y;simp[Q1,df,mU]
  grind
 simp only[aw,this,tb]
theorem mY.len {U:St} {v:AV} {l:List Nd} (h:mY U v l):bR (some false) v=.val (.int .i64 l.length):=by
 rcases h with (⟨rfl,rfl⟩|⟨c,rfl⟩)|⟨b,rfl,hb⟩<;>rfl
theorem mY.nd {U:St} {v:AV} {l:List Nd} {i:Nat} {x:Nd} {k:AV->Prop} (h:mY U v l) (hx:l[i]?=some x) (hk:k (.agg (df x))) :
 ao K (aJ (some (43,6)) none v (.int .i64 (i:Nat))) λ p=>ao K (ar (some (true,6)) p U) k:=by
 have aL:=(dp.1 hx).1;obtain⟨r,hr⟩:=BB hx;rcases h with (⟨rfl,rfl⟩|⟨c,rfl⟩)|⟨b,rfl,hb⟩
 . simp at aL
 . rw[WT,iJ,hr,H6];refine⟨by omega,by simp[df],?_⟩;simpa [df] using hk
 . rw[RQ,AD hb,iJ,cq,hr];refine⟨⟨by omega,by omega,rfl⟩,by simp[df],?_⟩;simpa [df] using hk
theorem Tw {U:St} {v1 v2:AV} {l1 l2:List Nd} {R:cM->St->Prop} (h1:mY U v1 l1) (h2:mY U v2 l2) (Ht:l1.length<=1000000) (q9:l2.length<=1000000) (h:R (.ret (.bool (decide (l1=l2)))) U):ae K 47 [v1,v2] U R:=by
 refine P6 ?_;unfold R1;simp only[h1.len,h2.len,ak,cP]
 by_cases hl:l1.length=l2.length
 . have:((l1.length:Int)=l2.length):=by omega
   simp only[this,dq,cT,aW];refine⟨λ m w1 w2 v5 ad=>∃ i:Nat,m=l1.length-i/\i<=l1.length/\w1=v1/\w2=v2/\v5=.int .i64 (i:Nat)/\ad=U/\∀ j,j<i->l1[j]?=l2[j]?,⟨_,0,rfl,by omega,rfl,rfl,rfl,rfl,λ j hj=>by omega⟩,?_⟩;rintro m w1 w2 v5 ad ⟨i,rfl,hi,rfl,rfl,rfl,rfl,heq⟩;simp only[h1.len,bX,ak,bJ];refine⟨λ aL=>?_,λ jW=>?_⟩
   . have aL:i<l1.length:=by omega
     obtain⟨x,hx⟩:∃ x,l1[i]?=some x:=⟨l1[i],by simp[aL]⟩;obtain⟨y,hy⟩:∃ y,l2[i]?=some y:=⟨l2[i],by simp⟩;refine h1.nd hx ?_;refine h2.nd hy ?_;rw[WJ];simp only[aD]
     by_cases yC:x=y
     . simp only[yC,dq,cT,aW,dm];refine⟨bD (by omega) (by omega),l1.length-(i+1),by omega,i+1,rfl,by omega,rfl,rfl,by simp,rfl,λ j hj=>?_⟩;rcases gI j i with h|h
       . exact heq j h
       . have:j=i:=by omega
         subst this; rw[hx,hy,yC]
     . simp only[yC,dz,dZ,a8];refine aq.eq h ?_;have:l1≠l2:=λ e=>yC (by rw[e,hy]at hx; cases hx; rfl);simp[this]
   . refine aq.eq h ?_;have:l1=l2:=List.ext_getElem? λ j=>by
      rcases gI j i with h|h
      . exact heq j h
      . rw[rE (by omega),rE (by omega)]
     simp[this]
 . have:¬ ((l1.length:Int)=l2.length):=by omega
   simp only[this,dz,dZ,a8];refine aq.eq h ?_;have:l1≠l2:=λ e=>hl (by rw[e]);simp[this]
end Go.Rip
namespace Go.Rip
open Go.Proofs Go.RowKit
theorem D4 {L:List AV} {o:Nat} {c:AV} (h:L[o]?=some c) (r:List AV):∃ r',(L++r).drop o=c::r':=by
 have aL:=(dp.1 h).1;rw[List.drop_append_of_le_length (by omega),iq aL];have:=(dp.1 h).2;rw[this];exact⟨_,rfl⟩
section
variable {U:St} {v:AV} {l:List Nd} {i o:Nat} {x:Nd} {c gv:AV} {k:AV->Prop} {K':AV->St->Prop} {Kp:AV->St->Prop}
theorem Fv (h:mY U v l) (hx:l[i]?=some x) (hc:(df x)[o]?=some c) (hk:k c) :
 ao K (aJ (some (43,6)) none v (.int .i64 (i:Nat))) λ p=>ao K (ah (some o) p) λ q=>ao K (ar (some (false,1)) q U) k:=by
 have aL:=(dp.1 hx).1;obtain⟨r,hr⟩:=BB hx;obtain⟨r',vD⟩:=D4 hc r;rcases h with (⟨rfl,rfl⟩|⟨cp,rfl⟩)|⟨b,rfl,hb⟩
 . simp at aL
 . rw[WT,iJ,hr];refine⟨by omega,?_⟩;simp only[di,aD,oO,vD,fi];exact hk
 . rw[RQ,iJ,cq];refine⟨⟨by omega,by omega,rfl⟩,?_⟩;simp only[aN,aD];rw[nk hb,<- List.drop_drop,hr,vD,fi];exact hk
theorem pq {r:ay} (h:ao K r k):af K (.bool true) r k:=by rw[aP,cn]; exact h
theorem aav (h:mY U v l) (hx:l[i]?=some x) (hc:(df x)[o]?=some c) (hk:k c) :
 af K (.bool true) (aJ (some (43,6)) none v (.int .i64 (i:Nat))) λ p=>af K (.bool true) (ah (some o) p) λ q=>af K (.bool true) (ar (some (false,1)) q U) k:=by
 simp only[aP,cn];exact Fv h hx hc hk
theorem kT {x:AV} (hk:k x):af K (.bool true) (.val x) k:=hk
end
structure gC (az U:St) (v:AV) (e:TypeId) (sz n:Nat) (l:List AV):Prop where
 g:Grow U v e sz n l
 z:n=0->v=.ag
 t:TO az v
 ex:cG az U
section
variable {az U:St} {v y:AV} {e:TypeId} {sz n m:Nat} {l l2:List AV} {K':AV->St->Prop} {Kp:AV->St->Prop}
theorem gC.nil (h:cG az U):gC az U .ag e sz 0 []:=⟨.inl ⟨rfl,rfl,rfl⟩,λ _=>rfl,(λ _ _ _ e=>by cases e),h⟩
theorem gC.mono {ad:St} (h:gC az U v e sz n l) (k:cG U ad):gC az ad v e sz n l:=by
 refine⟨?_,h.z,h.t,h.ex.trans k⟩;rcases h.g with g|⟨τ,r1,r2,r3⟩
 . exact .inl g
 . exact .inr ⟨τ,r1,k.tok r2,r3⟩
theorem Oy (h:gC az U v e sz n l) (hy:qo U y=some (m,l2)) (hl:l2.length=m*sz) (hm:0<m) (hb:n+m<=4294967296)
 (hk:∀ ad v',gC az ad v' e sz (n+m) (l++l2)->(∀ b x,(∀ n l,v≠.vec n (.own b) l)->U.live b=some x->ad.live b=some x)->K' v' ad):(ek (some (e,sz)) false v y U).wp K U K' Kp:=by
 refine yg h.g hy hl hm hb h.z λ ad v' g e1 n1=>hk ad v' ⟨g,λ hz=>by omega,λ n' τ l' hv=>?_,λ b x hx=>?_⟩ e1
 . rcases n1 n' τ l' hv with hz|⟨n2,l2',hx⟩
   . exact h.ex.fresh hz
   . exact h.t _ _ _ hx
 . exact e1 b x (λ n' l' hv=>by rw[h.t _ _ _ hv]at hx; cases hx) (h.ex b x hx)
theorem gC.sl (h:gC az U v e sz n l):gx v n l:=by
 rcases h.g with ⟨h1,h2,h3⟩|⟨τ,r1,_,_⟩
 . exact .inl ⟨h1,h2,h3⟩
 . exact .inr ⟨_,r1⟩
theorem Zg {e:TypeId} {x:AV} {z:AV} (hx:x.cA=true) (hc:au x=[x]) (hk:K' (.vec 1 .full [x]) U):(aF (some (e,1)) (some [z]) 1 false [(0,x)]).wp K U K' Kp:=by
 rw[fw];refine⟨by omega,?_⟩;rw[dQ (o:=0) (s:=1) rfl];refine⟨⟨hx,by rw[hc]; rfl,by simp[bN]⟩,?_⟩;rw[gw,hc];exact⟨rfl,hk⟩
end
def ia (ks:List Nat):List AV:=ks.map λ k=>.int .i64 (k:Nat)
theorem Pw {ks:List Nat} {i k:Nat} (h:ks[i]?=some k):∃ r,(ia ks).drop i=.int .i64 (k:Nat)::r:=by
 have aL:=(dp.1 h).1;refine⟨(ia ks).drop (i+1),?_⟩;rw[iq (by simpa [ia] using aL)];have:=(dp.1 h).2;simp[ia,this]
end Go.Rip
namespace Go.Rip
open Go.Proofs Go.RowKit
theorem oc (b:Bool):aB (.aQ []) b=.bool false:=by cases b<;>rfl
end Go.Rip
namespace Go.Rip
open Go.Proofs Go.RowKit
def Sp {α:Type} (V:PR α) (bad:Bool) (i:Nat) (W:PR α):Prop:=if bad=true then V=.bad i else V=W
structure Own (r:Nat) (az U:St) (nb:List (Nat×List AV)):Prop where
 own:∀ p∈nb,p.1≠r/\U.box p.1=some p.2/\az.live p.1=none
 WM:(nb.map Prod.fst).Nodup
structure S2 (X:Rx) (r:Nat) (az:St) (V:PR (List Nd)) (bad:Bool) (i:Nat) (W:PR (List Nd)) (nb:List (Nat×List AV)) (U:St):Prop where
 A:eP r (rr X i bad) az U
 hi:i<=X.L.length
 sp:Sp V bad i W
 own:Own r az U nb
section
variable {r:Nat} {az U ad:St} {nb:List (Nat×List AV)} {b:Nat} {l:List AV}
theorem Own.eU (h:Own r az U nb) (e:gR r U ad):Own r az ad nb :=
 ⟨λ p hp=>⟨(h.own p hp).1,e.bf (h.own p hp).1 (h.own p hp).2.1,(h.own p hp).2.2⟩,h.WM⟩
theorem Own.cons (h:Own r az U nb) (e:gR r U ad) (hr:b≠r) (h0:az.live b=none) (hn:U.live b=none) (hb:ad.box b=some l):Own r az ad ((b,l)::nb):=by
 refine⟨λ p hp=>?_,?_⟩
 . rcases fe.1 hp with rfl|hp
   . exact⟨hr,hb,h0⟩
   . exact (h.eU e).own p hp
 . rw[dY,List.nodup_cons];refine⟨λ hm=>?_,h.WM⟩;obtain⟨p,hp,rfl⟩:=List.mem_map.1 hm;exact dA (h.own p hp).2.1 hn
theorem Own.drop {WI wN:List (Nat×List AV)} (h:Own r az U (WI++(b,l)::wN)):Own r az U (WI++wN) :=
 ⟨λ p hp=>h.own p (by rw[fN]at hp ⊢; rcases hp with hp|hp; exact .inl hp; exact .inr (List.mem_cons_of_mem _ hp)),by
   have:=h.WM;rw[List.map_append,dY]at this;rw[List.map_append];exact this.sublist (List.Sublist.append (List.Sublist.refl _) (List.sublist_cons_self ..))⟩
end
end Go.Rip
namespace Go.Rip
open Go.Proofs Go.RowKit
def bx (kind:Int) (text:aT) (n m at_:Int):List AV:=[.int .u8 kind,.str text,.int .i64 n,.int .i64 m,.int .i64 at_,.int .i64 0]
section
variable {X:Rx} {r i:Nat} {bad:Bool} {az U:St} {V W W':PR (List Nd)} {nb WI wN:List (Nat×List AV)} {R:cM->St->Prop} {K':AV->St->Prop} {Q:St->Prop} {Kp:AV->St->Prop} {k:AV->Prop} {w:aT} {kind n m at_:Int} {text:aT} {bk:Nat}
theorem S2.new {b:Nat} {l:List AV} (S:S2 X r az V bad i W nb U) (hf:U.cV b):S2 X r az V bad i W ((b,l)::nb) (U.new b (.box l)):=by
 have cv:b≠r:=λ e=>dA S.A.box (e▸hf.1);exact⟨S.A.trans (.pX S.A.box (bC hf)),S.hi,S.sp,S.own.cons (bC hf).D8 cv (S.A.ex.fresh cv hf.1) hf.1 aI⟩
end
end Go.Rip
namespace Go.Rip
open Go.Proofs Go.RowKit
def OJ (v w:AV):Prop:=∀ τ n l n' l',v=.vec n (.own τ) l->w=.vec n' (.own τ) l'->False
theorem OJ.symm {v w:AV} (h:OJ v w):OJ w v:=λ τ n l n' l' h1 h2=>h τ n' l' n l h2 h1
end Go.Rip
namespace Go.Rip
open Go.Proofs Go.RowKit
theorem Q3 {c:Prop} [Decidable c] {x:AV} {f:AV->ay} {q:Bool} {U:St} {K':AV->St->Prop} {Kp:AV->St->Prop} (hf:c->f x=.val (.bool q)) (hk:K' (.bool (decide c&&q)) U) :
 af K (aB (.bool (decide c)) true) (ay.val x) λ v6=>af K (aB (.bool (decide c)) true) (f v6) λ v7=>(bu (.bool (decide c)) v7 (.bool false)).wp K U K' Kp:=by
 by_cases hc:c
 . simp only[hc,dq,bj,ib,aP,cn,aD,hf hc,aO,if_true,ak];simpa [hc] using hk
 . simp only[hc,dz,bj,show (false==true)=false from rfl,aP,cz,aO,bQ,if_false,ak];simpa [hc] using hk
theorem IT {p:Bool} {x:AV} {f:AV->ay} {q:Bool} {U:St} {K':AV->St->Prop} {Kp:AV->St->Prop} (hf:p=false->f x=.val (.bool q)) (hk:K' (.bool (p||q)) U) :
 af K (aB (.bool p) false) (ay.val x) λ v6=>af K (aB (.bool p) false) (f v6) λ v7=>(bu (.bool p) (.bool true) v7).wp K U K' Kp:=by
 cases p with
 | true =>
   simp only[bj,show (true==false)=false from rfl,aP,cz,aO,if_true,ak];simpa using hk
 | false =>
   simp only[bj,ib,aP,cn,aD,hf rfl,aO,bQ,if_false,ak];simpa using hk
def IX (k:Int):Bool:=decide (k=6\/k=7\/k=12\/k=14\/k=25\/k=26)
def IY (k:Int):Bool:=decide (k=2\/k=3\/k=4\/k=5\/k=12\/k=13\/k=14\/k=16\/k=31\/k=32\/k=33\/k=34\/k=37)
end Go.Rip
namespace Go.Rip
open Go.Proofs Go.RowKit
def lK (ks:List Int):List AV:=ks.map (.int .u8)
theorem S6 {ks:List Int} {i:Nat} {k:Int} (h:ks[i]?=some k):∃ r,(lK ks).drop i=.int .u8 k::r:=by
 have aL:=(dp.1 h).1;refine⟨(lK ks).drop (i+1),?_⟩;rw[iq (by simpa [lK] using aL)];have:=(dp.1 h).2;simp[lK,this]
end Go.Rip
namespace Go.Rip
open Go.Proofs Go.RowKit
def O5 (k:Int) (ks:List Int):Bool:=match eI k with|some f=>gS ks f.kids|none=>false
theorem sL {k:Int} (h:k<1\/37<k):eI k=none:=by
 unfold eI
 repeat rw[if_neg (by omega)]
end Go.Rip
namespace Go.Rip
open Go.Proofs Go.RowKit
section
variable {U:St} {bt:BT} {l:Bool} {k:IntKind} {a b:Int} {K':AV->St->Prop} {Kp:AV->St->Prop}
theorem J8 (h:K' (.bool (decide (a=b))) U):(aw .eql bt l (.int k a) (.int k b)).wp K U K' Kp:=by rw[bw]; exact h
theorem XP (h:K' (.bool (decide (b<=a))) U):(aw .geq bt l (.int k a) (.int k b)).wp K U K' Kp:=by rw[iN]; exact h
theorem ez {A B:Prop} (h:A):aA (.bool true) A B:=by rw[a8]; exact h
theorem eV {A B:Prop} (h:B):aA (.bool false) A B:=by rw[aW]; exact h
theorem tn {p:Prop} [Decidable p] {A B:Prop} (h:p->A) (h':¬ p->B):aA (.bool (decide p)) A B:=by rw[bJ]; exact⟨h,h'⟩
end
def Bo (x:Nd):Bool:=(IY x.kind==decide (x.text≠[]))&&(!decide (x.text≠[])||jk x.text)&&(if IX x.kind then fJ x.n else decide (x.n=0))&&(if x.kind=12 then fJ x.m else decide (x.m=0))
theorem Da:∀ n:Fin 38,(match eI ((n.val:Nat):Int) with|some f=>f.text==IY (n.val:Nat)&&f.n==IX (n.val:Nat)&&f.m==decide (((n.val:Nat):Int)=12)|none=>true)=true:=by decide +kernel
theorem Ec {k:Int} {f:DK} (h:eI k=some f):f.text=IY k/\f.n=IX k/\f.m=decide (k=12):=by
 have hk:1<=k/\k<=37:=by
  by_cases h1:k<1\/37<k
  . rw[sL h1]at h; cases h
  . omega
 obtain⟨n,rfl⟩:∃ n:Nat,k=n:=⟨k.toNat,by omega⟩;have:=Da ⟨n,by omega⟩;simp only[h,bV,beq_iff_eq]at this;exact⟨this.1.1,this.1.2,this.2⟩
theorem Cb {x:Nd} {f:DK} (h:eI x.kind=some f):Bo x=dv x f:=by
 obtain⟨h1,h2,h3⟩:=Ec h;have z:fJ 0=true:=by simp[fJ]
 unfold Bo dv;rw[<- h1,<- h2];have hm:(if x.kind=12 then fJ x.m else decide (x.m=0))=(if f.m=true then fJ x.m else decide (x.m=0)):=by
  rw[h3]; by_cases h:x.kind=12<;>simp[h]
 rw[hm];have e0:(x.text != [])=decide (x.text≠[]):=by
  by_cases h:x.text=[]<;>simp[h]
 rw[e0]
 by_cases ht:x.text=[]
 . have:jk []=false:=by decide
   cases f.text<;>cases f.n<;>cases f.m<;>by_cases hn:x.n=0<;>by_cases K7:x.m=0<;>simp[ht,hn,K7,z,this]
 . cases f.text<;>cases f.n<;>cases f.m<;>by_cases hn:x.n=0<;>by_cases K7:x.m=0<;>simp[ht,hn,K7,z]
end Go.Rip
namespace Go.Rip
open Go.Proofs Go.RowKit
theorem tQ {f:FuncId} {args:List AV} {x:AV} {kq:AV->Prop} (h:Pure K f args x) (hk:kq x):ao K (ay.enter f args) kq:=⟨x,h,hk⟩
theorem kD {b o k:Nat} {kq:AV->Prop} (h:kq (.box b (o+k))):ao K (ah (some k) (.box b o)) kq:=h
theorem Vi {b o k:Nat} {kq:AV->Prop} (h:kq (.box b (o+k))):af K (.bool true) (ah (some k) (.box b o)) kq:=h
theorem Vj {U:St} {b o:Nat} {L l:List AV} {x:AV} {kq:AV->Prop} (hb:U.box b=some L) (hd:L.drop o=x::l) (h:kq x):af K (.bool true) (ar (some (false,1)) (.box b o) U) kq:=by rw[ld hb,hd]; exact h
theorem eL {U:St} {b o:Nat} {L l:List AV} {x:AV} {kq:AV->Prop} (hb:U.box b=some L) (hd:L.drop o=x::l) (h:kq x):ao K (ar (some (false,1)) (.box b o) U) kq:=by rw[ld hb,hd]; exact h
theorem gq {U τ:St} {b o:Nat} {L l:List AV} {x:AV} {K':AV->St->Prop} {Kp:AV->St->Prop} (hb:U.box b=some L) (hd:L.drop o=x::l) (h:K' x τ):(ar (some (false,1)) (.box b o) U).wp K τ K' Kp:=by rw[ld hb,hd]; exact h
end Go.Rip
namespace Go.Rip
open Go.Proofs Go.RowKit
def uO (x:Nd) (ks:List Int):Bool:=Bo x&&O5 x.kind ks
theorem Fg {k:Int} {t:aT} {n m a:Int} {ks:List Tre} {x:Nd} (h1:x.kind=k) (h2:x.text=t) (h3:x.n=n) (h4:x.m=m):(Tre.mk k t n m a ks).ok=(uO x (ks.map Tre.kind)&&Tre.pY ks):=by
 rw[Tre.ok];congr 1;unfold uO O5;rw[h1];cases hf:eI k with
 | none=>simp
 | some f =>
   rw[Cb (f:=f) (by rw[h1]; exact hf)];congr 1;unfold dv;simp only[h2,h3,h4]
theorem Fk {l:List Nd}:∀ (N:Nat) (ts:List Tre) (p:Nat),(Tre.br ts).length<=N->oz l p ts->(∀ j s x,p<=j->j<p+(Tre.br ts).length->fo l j s->l[j]?=some x->uO x (s.kids.map Tre.kind)=true)->Tre.pY ts=true
 | _,[],_,_,_,_=>by simp
 | 0,t::ts,_,hN,_,_=>by have:=t.dU; simp only[Tre.cW,eG]at hN; omega
 | N+1,.mk k tx n m a ks::ts,p,hN,h,b0=>by
   have En:(Tre.mk k tx n m a ks).flat.length=(Tre.br ks).length+1:=nP (.mk k tx n m a ks);simp only[Tre.cW,eG]at hN b0;rw[Tre.ry];obtain⟨x,hx,h1,h2,h3,h4,h5,h6⟩:=h.head.pP;rw[Fg (k:=k) (t:=tx) (n:=n) (m:=m) (x:=x) h1 h3 h4 h5];have e1:uO x (ks.map Tre.kind)=true:=b0 p _ x (cN _) (by omega) h.head hx;have e2:=Fk N ks (p+1) (by omega) h.head.kids λ j s y wo o7=>b0 j s y (by omega) (by omega);have e3:=Fk N ts (p+(Tre.flat (.mk k tx n m a ks)).length) (by omega) h.tail λ j s y wo o7=>b0 j s y (by omega) (by omega);rw[e1,e2,e3]; rfl
theorem Xn {t:Tre} (h:t.ok=true) {i:Nat} {s:Tre} (hs:fo t.flat i s):s.ok=true:=by
 have hi:i<t.flat.length:=by have:=hs.le; have:=s.dU; omega
 obtain⟨s',h1,h2⟩:=x6 (l:=t.flat) t.flat.length [t] 0 (by simp) ⟨[],by simp⟩ i (by omega) (by simpa using hi);rw[hs.inj h1];exact h2 (by simp[h])
theorem PJ {s:Tre} (h:s.ok=true) {l:List Nd} {i:Nat} {x:Nd} (hs:fo l i s) (hx:l[i]?=some x):uO x (s.kids.map Tre.kind)=true:=by
 obtain⟨y,hy,h1,h2,h3,h4,h5,h6⟩:=hs.pP;rw[hx]at hy; cases hy;cases s with
 | mk k tx n m a ks =>
   rw[Fg (k:=k) (t:=tx) (n:=n) (m:=m) (x:=x) h1 h3 h4 h5,bV]at h;exact h.1
end Go.Rip
namespace Go.Rip
open Go.Proofs Go.RowKit
theorem F8 {U:St} {bt:BT} {l:Bool} {k:IntKind} {a b:Int} {A B:AV->St->Prop} {Kp:AV->St->Prop} (h:a<b->A (.bool true) U) (h':¬ a<b->B (.bool false) U):(aw .lss bt l (.int k a) (.int k b)).wp K U (λ v U=>aA v (A v U) (B v U)) Kp:=by
 rw[bX,ak]
 by_cases hc:a<b
 . simp only[hc,dq]; exact ez (h hc)
 . simp only[hc,dz]; exact eV (h' hc)
end Go.Rip
