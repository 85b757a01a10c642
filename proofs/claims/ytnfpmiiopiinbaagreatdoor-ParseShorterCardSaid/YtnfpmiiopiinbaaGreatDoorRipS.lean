/- Lemmas for the proof: no conditions. -/
import Derived.Test.YtnfpmiiopiinbaaGreatDoorRipZz
import Derived.Test.YtnfpmiiopiinbaaGreatDoorRipQ
import Derived.Test.YtnfpmiiopiinbaaGreatDoorRipK
import Derived.Test.YtnfpmiiopiinbaaGreatDoorRipF
import Derived.Test.YtnfpmiiopiinbaaGreatDoorRipP
import Derived.Test.YtnfpmiiopiinbaaGreatDoorRipI
import Derived.Test.YtnfpmiiopiinbaaGreatDoorRipG
set_option linter.unusedVariables false
set_option linter.unusedSimpArgs false
set_option linter.loopingSimpArgs false
namespace Go.Rip
open Go.Proofs Go.RowKit
def rr (X:Rx) (i:Nat) (bad:Bool):List AV:=[X.tv,.int .i64 i,.bool bad]
section
variable {X:Rx} {r i:Nat} {bad:Bool} {U:St} {R:cY->St->Prop}
theorem DA {k:AV->Prop} {r:aC} {gv v:AV} (hg:gv=.bool true) (hr:r=.val v) (h:k v):ao K gv r k:=by rw [hg,hr]; exact h
end
end Go.Rip
namespace Go.Rip
open Go.Proofs Go.RowKit
def BR (U:St) (v:AV) (ns:List Nd):Prop:=((v=.aq/\ns=[])\/∃ c,v=.vec ns.length c (cF ns))\/∃ b,v=.ms b 0 ns.length 6 43/\U.box b=some (cF ns)
theorem BR.src {U:St} {v:AV} {ns:List Nd} (h:BR U v ns):rI U v=some (ns.length,cF ns):=by
 rcases h with (⟨rfl,rfl⟩ | ⟨c,rfl⟩) | ⟨b,rfl,hb⟩
 . rfl
 . rfl
 . simp only [rI,hb,eD]
   rw [qD (by rw [qf]; omega)]
theorem BR.dh {U:St} {v:AV} {ns:List Nd} (h:BR U v ns):v.dh=true/\ax v=[v]:=by
 rcases h with (⟨rfl,rfl⟩ | ⟨c,rfl⟩) | ⟨b,rfl,hb⟩ <;> exact ⟨rfl,rfl⟩
section
variable {U:St} {R:cY->St->Prop}
end
end Go.Rip
namespace Go.Rip
open Go.Proofs Go.RowKit
theorem HJ {L:List AV} {o:Nat} {c:AV} (h:L[o]?=some c) (r:List AV):∃ r',(L++r).drop o=c::r':=by
 have aQ:=(dC.1 h).1
 rw [List.drop_append_of_le_length (by omega),ib aQ]
 have:=(dC.1 h).2
 rw [this]
 exact ⟨_,rfl⟩
section
variable {U:St} {v:AV} {l:List Nd} {i o:Nat} {x:Nd} {c gv:AV} {k:AV->Prop} {K':AV->St->Prop} {Kp:AV->St->Prop}
theorem V7 (h:BR U v l) (hx:l[i]?=some x) (hc:(dY x)[o]?=some c) (hk:K' c U) :
 (aO (some (43,6)) none v (.int .i64 (i:Nat))).wp K U (fun p U=>(af (some o) p).wp K U (fun q U=>(ak (some (false,1)) q U).wp K U K' Kp) Kp) Kp:=by
 have aQ:=(dC.1 hx).1
 obtain ⟨r,hr⟩:=LW hx
 obtain ⟨r',yT⟩:=HJ hc r
 rcases h with (⟨rfl,rfl⟩ | ⟨cp,rfl⟩) | ⟨b,rfl,hb⟩
 . simp at aQ
 . rw [Cz,jH,hr]
   refine ⟨by omega,?_⟩
   simp only [dJ,aj,oH,yT,bC]
   exact hk
 . rw [DZ,jH,df]
   refine ⟨⟨by omega,by omega,rfl⟩,?_⟩
   simp only [aZ,aj]
   rw [gM hb,<- List.drop_drop,hr,yT,bC]
   exact hk
theorem sv {r:aC} (h:aB K r k):ao K (.bool true) r k:=by rw [aP,cI]; exact h
theorem nZ {x:AV} (hk:k x):ao K (.bool true) (.val x) k:=hk
end
structure je (au U:St) (v:AV) (e:TypeId) (sz n:Nat) (l:List AV):Prop where
 g:Grow U v e sz n l
 z:n=0->v=.aq
 t:Zn au v
 ex:dm au U
section
variable {au U:St} {v y:AV} {e:TypeId} {sz n m:Nat} {l l2:List AV} {K':AV->St->Prop} {Kp:AV->St->Prop}
theorem je.nil (h:dm au U):je au U .aq e sz 0 []:=⟨.inl ⟨rfl,rfl,rfl⟩,fun _=>rfl,(fun _ _ _ e=>by cases e),h⟩
theorem je.mono {ad:St} (h:je au U v e sz n l) (k:dm U ad):je au ad v e sz n l:=by
 refine ⟨?_,h.z,h.t,h.ex.trans k⟩
 rcases h.g with g | ⟨τ,r1,r2,r3⟩
 . exact .inl g
 . exact .inr ⟨τ,r1,k.tok r2,r3⟩
theorem JZ (h:je au U v e sz n l) (hy:rI U y=some (m,l2)) (hl:l2.length=m * sz) (hm:0 < m) (hb:n+m <= 4294967296)
 (hk:∀ ad v',je au ad v' e sz (n+m) (l++l2)->(∀ b x,(∀ n l,v ≠ .vec n (.own b) l)->U.live b=some x->ad.live b=some x)->K' v' ad):(eR (some (e,sz)) false v y U).wp K U K' Kp:=by
 refine DY h.g hy hl hm hb h.z fun ad v' g e1 n1=>hk ad v' ⟨g,fun hz=>by omega,fun n' τ l' hv=>?_,fun b x hx=>?_⟩ e1
 . rcases n1 n' τ l' hv with hz | ⟨n2,l2',hx⟩
   . exact h.ex.fresh hz
   . exact h.t _ _ _ hx
 . exact e1 b x (fun n' l' hv=>by rw [h.t _ _ _ hv] at hx; cases hx) (h.ex b x hx)
theorem je.sl (h:je au U v e sz n l):eP v n l:=by
 rcases h.g with ⟨h1,h2,h3⟩ | ⟨τ,r1,_,_⟩
 . exact .inl ⟨h1,h2,h3⟩
 . exact .inr ⟨_,r1⟩
theorem Ou {e:TypeId} {x:AV} {z:AV} (hx:x.dh=true) (hc:ax x=[x]) (hk:K' (.vec 1 .full [x]) U):(ar (some (e,1)) (some [z]) 1 false [(0,x)]).wp K U K' Kp:=by
 rw [gG]
 refine ⟨by omega,?_⟩
 rw [eJ (o:=0) (s:=1) rfl]
 refine ⟨⟨hx,by rw [hc]; rfl,by simp [bO]⟩,?_⟩
 rw [ik,hc]
 exact ⟨rfl,hk⟩
end
def jg (ks:List Nat):List AV:=ks.map fun k=>.int .i64 (k:Nat)
theorem UJ {ks:List Nat} {i k:Nat} (h:ks[i]?=some k):∃ r,(jg ks).drop i=.int .i64 (k:Nat)::r:=by
 have aQ:=(dC.1 h).1
 refine ⟨(jg ks).drop (i+1),?_⟩
 rw [ib (by simpa [jg] using aQ)]
 have:=(dC.1 h).2
 simp [jg,this]
end Go.Rip
namespace Go.Rip
open Go.Proofs Go.RowKit
theorem qM (b:Bool):aL (.aH []) b=.bool false:=by cases b <;> rfl
end Go.Rip
namespace Go.Rip
open Go.Proofs Go.RowKit
def Sp {α:Type} (V:PR α) (bad:Bool) (i:Nat) (W:PR α):Prop:=if bad=true then V=.bad i else V=W
structure Own (r:Nat) (au U:St) (nb:List (Nat × List AV)):Prop where
 own:∀ p ∈ nb,p.1 ≠ r/\U.box p.1=some p.2/\au.live p.1=none
 nod:(nb.map Prod.fst).Nodup
structure S2 (X:Rx) (r:Nat) (au:St) (V:PR (List Nd)) (bad:Bool) (i:Nat) (W:PR (List Nd)) (nb:List (Nat × List AV)) (U:St):Prop where
 A:gT r (rr X i bad) au U
 hi:i <= X.L.length
 sp:Sp V bad i W
 own:Own r au U nb
section
variable {r:Nat} {au U ad:St} {nb:List (Nat × List AV)} {b:Nat} {l:List AV}
theorem Own.jo (h:Own r au U nb) (e:lj r U ad):Own r au ad nb :=
 ⟨fun p hp=>⟨(h.own p hp).1,e.bg (h.own p hp).1 (h.own p hp).2.1,(h.own p hp).2.2⟩,h.nod⟩
theorem Own.cons (h:Own r au U nb) (e:lj r U ad) (hr:b ≠ r) (h0:au.live b=none) (hn:U.live b=none) (hb:ad.box b=some l):Own r au ad ((b,l)::nb):=by
 refine ⟨fun p hp=>?_,?_⟩
 . rcases cJ.1 hp with rfl | hp
   . exact ⟨hr,hb,h0⟩
   . exact (h.jo e).own p hp
 . rw [eh,List.nodup_cons]
   refine ⟨fun hm=>?_,h.nod⟩
   obtain ⟨p,hp,rfl⟩:=List.mem_map.1 hm
   exact cD (h.own p hp).2.1 hn
theorem Own.drop {nb1 LV:List (Nat × List AV)} (h:Own r au U (nb1++(b,l)::LV)):Own r au U (nb1++LV) :=
 ⟨fun p hp=>h.own p (by rw [gu] at hp ⊢; rcases hp with hp | hp; exact .inl hp; exact .inr (List.mem_cons_of_mem _ hp)),by
   have:=h.nod
   rw [List.map_append,eh] at this
   rw [List.map_append]
   exact this.sublist (List.Sublist.append (List.Sublist.refl _) (List.sublist_cons_self ..))⟩
end
section
variable {X:Rx} {r i:Nat} {bad:Bool} {au U:St} {V W W':PR (List Nd)} {nb:List (Nat × List AV)} {R:cY->St->Prop} {K':AV->St->Prop} {Kp:AV->St->Prop} {w:aG}
end
section
variable {X:Rx} {r i:Nat} {bad:Bool} {au U:St} {V W W':PR (List Nd)} {nb:List (Nat × List AV)} {R:cY->St->Prop} {K':AV->St->Prop} {Kp:AV->St->Prop} {k:AV->Prop} {w:aG}
end
end Go.Rip
namespace Go.Rip
open Go.Proofs Go.RowKit
def bx (kind:Int) (text:aG) (n m at_:Int):List AV:=[.int .u8 kind,.str text,.int .i64 n,.int .i64 m,.int .i64 at_,.int .i64 0]
section
variable {X:Rx} {r i:Nat} {bad:Bool} {au U:St} {V W W':PR (List Nd)} {nb nb1 LV:List (Nat × List AV)} {R:cY->St->Prop} {K':AV->St->Prop} {Q:St->Prop} {Kp:AV->St->Prop} {k:AV->Prop} {w:aG} {kind n m at_:Int} {text:aG} {bk:Nat}
theorem S2.new {b:Nat} {l:List AV} (S:S2 X r au V bad i W nb U) (hf:U.dA b):S2 X r au V bad i W ((b,l)::nb) (U.new b (.box l)):=by
 have cr:b ≠ r:=fun e=>cD S.A.box (e ▸ hf.1)
 exact ⟨S.A.trans (.mW S.A.box (bB hf)),S.hi,S.sp,S.own.cons (bB hf).HN cr (S.A.ex.fresh cr hf.1) hf.1 aK⟩
end
section
variable {X:Rx} {i:Nat}
end
end Go.Rip
namespace Go.Rip
open Go.Proofs Go.RowKit
theorem acH {e:Nat} {z x:AV} {U:St} {K':AV->St->Prop} {Kp:AV->St->Prop} (hz:ax z=[z]) (hx:x.dh=true) (hc:ax x=[x]) (h:K' (.vec 1 .full [x]) U):(ar (some (e,1)) (some [z]) 1 false [(0,x)]).wp K U K' Kp:=by
 rw [gG]
 refine ⟨by omega,?_⟩
 rw [eJ (o:=0) (s:=1) rfl]
 refine ⟨⟨hx,by rw [hc]; rfl,by simp [bO]⟩,?_⟩
 rw [ik,hc]
 exact ⟨rfl,h⟩
theorem acI {e:Nat} {z x y:AV} {U:St} {K':AV->St->Prop} {Kp:AV->St->Prop} (hx:x.dh=true) (hc:ax x=[x]) (hy:y.dh=true) (hd:ax y=[y]) (h:K' (.vec 2 .full [x,y]) U):(ar (some (e,1)) (some [z]) 2 false [(0,x),(1,y)]).wp K U K' Kp:=by
 rw [gG]
 refine ⟨by omega,?_⟩
 rw [eJ (o:=0) (s:=1) rfl]
 refine ⟨⟨hx,by rw [hc]; rfl,by simp [bO]⟩,?_⟩
 rw [eJ (o:=1) (s:=1) rfl]
 refine ⟨⟨hy,by rw [hd]; rfl,by rw [hc]; simp [bO,aA]⟩,?_⟩
 rw [ik,hc,hd]
 exact ⟨rfl,h⟩
section
variable {X:Rx} {r i:Nat} {bad:Bool} {au U:St} {V W W':PR (List Nd)} {nb nb':List (Nat × List AV)} {R:cY->St->Prop} {K':AV->St->Prop} {Kp:AV->St->Prop} {w:aG}
end
section
variable {X:Rx} {i:Nat}
end
end Go.Rip
namespace Go.Rip
open Go.Proofs Go.RowKit
def TC (v w:AV):Prop:=∀ τ n l n' l',v=.vec n (.own τ) l->w=.vec n' (.own τ) l'->False
theorem TC.symm {v w:AV} (h:TC v w):TC w v:=fun τ n l n' l' h1 h2=>h τ n' l' n l h2 h1
end Go.Rip
namespace Go.Rip
open Go.Proofs Go.RowKit
theorem Wi {c:Prop} [Decidable c] {x:AV} {f:AV->aC} {q:Bool} {U:St} {K':AV->St->Prop} {Kp:AV->St->Prop} (hf:c->f x=.val (.bool q)) (hk:K' (.bool (decide c && q)) U) :
 ao K (aL (.bool (decide c)) true) (aC.val x) fun v6=>ao K (aL (.bool (decide c)) true) (f v6) fun v7=>(bM (.bool (decide c)) v7 (.bool false)).wp K U K' Kp:=by
 by_cases hc:c
 . simp only [hc,dZ,bj,iJ,aP,cI,aJ,hf hc,aM,if_true,aj]
   simpa [hc] using hk
 . simp only [hc,eX,bj,show (false == true)=false from rfl,aP,cC,aM,bQ,if_false,aj]
   simpa [hc] using hk
theorem M0 {p:Bool} {x:AV} {f:AV->aC} {q:Bool} {U:St} {K':AV->St->Prop} {Kp:AV->St->Prop} (hf:p=false->f x=.val (.bool q)) (hk:K' (.bool (p || q)) U) :
 ao K (aL (.bool p) false) (aC.val x) fun v6=>ao K (aL (.bool p) false) (f v6) fun v7=>(bM (.bool p) (.bool true) v7).wp K U K' Kp:=by
 cases p with
 | true =>
   simp only [bj,show (true == false)=false from rfl,aP,cC,aM,if_true,aj]
   simpa using hk
 | false =>
   simp only [bj,iJ,aP,cI,aJ,hf rfl,aM,bQ,if_false,aj]
   simpa using hk
def M7 (k:Int):Bool:=decide (k=6\/k=7\/k=12\/k=14\/k=25\/k=26)
def M8 (k:Int):Bool:=decide (k=2\/k=3\/k=4\/k=5\/k=12\/k=13\/k=14\/k=16\/k=31\/k=32\/k=33\/k=34\/k=37)
end Go.Rip
namespace Go.Rip
open Go.Proofs Go.RowKit
def oU (ks:List Int):List AV:=ks.map (.int .u8)
theorem Ys {ks:List Int} {i:Nat} {k:Int} (h:ks[i]?=some k):∃ r,(oU ks).drop i=.int .u8 k::r:=by
 have aQ:=(dC.1 h).1
 refine ⟨(oU ks).drop (i+1),?_⟩
 rw [ib (by simpa [oU] using aQ)]
 have:=(dC.1 h).2
 simp [oU,this]
section
variable {U:St} {v:AV} {ks:List Int} {i:Nat} {k:Int} {e:Nat} {K':AV->St->Prop} {Kp:AV->St->Prop} {kq:AV->Prop}
end
section
variable {v:AV} {ks:List Int}
end
end Go.Rip
namespace Go.Rip
open Go.Proofs Go.RowKit
def Ui (k:Int) (ks:List Int):Bool:=match bA k with | some f=>dP ks f.kids | none=>false
theorem vS {k:Int} (h:k < 1\/37 < k):bA k=none:=by
 unfold bA
 repeat rw [if_neg (by omega)]
section
variable {U:St} {R:cY->St->Prop} {v:AV} {ks:List Int} {c:Prop} [Decidable c] {q:Bool} {f:FuncId} {Kp:AV->St->Prop} {K':AV->St->Prop} {Kp:AV->St->Prop}
end
end Go.Rip
namespace Go.Rip
open Go.Proofs Go.RowKit
section
variable {U:St} {bt:BT} {l:Bool} {k:IntKind} {a b:Int} {K':AV->St->Prop} {Kp:AV->St->Prop}
theorem He (h:K' (.bool (decide (a=b))) U):(aw .eql bt l (.int k a) (.int k b)).wp K U K' Kp:=by rw [bu]; exact h
theorem Tw (h:K' (.bool (!decide (a=b))) U):(aw .neq bt l (.int k a) (.int k b)).wp K U K' Kp:=by rw [dS]; exact h
theorem acK (h:K' (.bool (decide (b <= a))) U):(aw .geq bt l (.int k a) (.int k b)).wp K U K' Kp:=by rw [iq]; exact h
theorem eH {A B:Prop} (h:A):av (.bool true) A B:=by rw [bG]; exact h
theorem eF {A B:Prop} (h:B):av (.bool false) A B:=by rw [bp]; exact h
theorem iv {p:Prop} [Decidable p] {A B:Prop} (h:p->A) (h':¬ p->B):av (.bool (decide p)) A B:=by rw [ca]; exact ⟨h,h'⟩
end
def Ei (x:Nd):Bool:=(M8 x.kind == decide (x.text ≠ [])) && (!decide (x.text ≠ []) || kL x.text) && (if M7 x.kind then dH x.n else decide (x.n=0)) && (if x.kind=12 then dH x.m else decide (x.m=0))
theorem GJ:∀ n:Fin 38,(match bA ((n.val:Nat):Int) with | some f=>f.text == M8 (n.val:Nat) && f.n == M7 (n.val:Nat) && f.m == decide (((n.val:Nat):Int)=12) | none=>true)=true:=by decide +kernel
theorem HX {k:Int} {f:gl} (h:bA k=some f):f.text=M8 k/\f.n=M7 k/\f.m=decide (k=12):=by
 have hk:1 <= k/\k <= 37:=by
  by_cases h1:k < 1\/37 < k
  . rw [vS h1] at h; cases h
  . omega
 obtain ⟨n,rfl⟩:∃ n:Nat,k=n:=⟨k.toNat,by omega⟩
 have:=GJ ⟨n,by omega⟩
 simp only [h,bS,beq_iff_eq] at this
 exact ⟨this.1.1,this.1.2,this.2⟩
theorem Fj {x:Nd} {f:gl} (h:bA x.kind=some f):Ei x=eg x f:=by
 obtain ⟨h1,h2,h3⟩:=HX h
 have z:dH 0=true:=by simp [dH]
 unfold Ei eg
 rw [<- h1,<- h2]
 have hm:(if x.kind=12 then dH x.m else decide (x.m=0))=(if f.m=true then dH x.m else decide (x.m=0)):=by
  rw [h3]; by_cases h:x.kind=12 <;> simp [h]
 rw [hm]
 have e0:(x.text != [])=decide (x.text ≠ []):=by
  by_cases h:x.text=[] <;> simp [h]
 rw [e0]
 by_cases ht:x.text=[]
 . have:kL []=false:=by decide
   cases f.text <;> cases f.n <;> cases f.m <;> by_cases hn:x.n=0 <;> by_cases PI:x.m=0 <;> simp [ht,hn,PI,z,this]
 . cases f.text <;> cases f.n <;> cases f.m <;> by_cases hn:x.n=0 <;> by_cases PI:x.m=0 <;> simp [ht,hn,PI,z]
end Go.Rip
namespace Go.Rip
open Go.Proofs Go.RowKit
theorem oN {f:FuncId} {args:List AV} {x:AV} {kq:AV->Prop} (h:Pure K f args x) (hk:kq x):aB K (aC.enter f args) kq:=⟨x,h,hk⟩
theorem kN {b o k:Nat} {kq:AV->Prop} (h:kq (.box b (o+k))):aB K (af (some k) (.box b o)) kq:=h
theorem aa7 {b o k:Nat} {kq:AV->Prop} (h:kq (.box b (o+k))):ao K (.bool true) (af (some k) (.box b o)) kq:=h
theorem aa8 {U:St} {b o:Nat} {L l:List AV} {x:AV} {kq:AV->Prop} (hb:U.box b=some L) (hd:L.drop o=x::l) (h:kq x):ao K (.bool true) (ak (some (false,1)) (.box b o) U) kq:=by rw [ld hb,hd]; exact h
theorem fO {U:St} {b o:Nat} {L l:List AV} {x:AV} {kq:AV->Prop} (hb:U.box b=some L) (hd:L.drop o=x::l) (h:kq x):aB K (ak (some (false,1)) (.box b o) U) kq:=by rw [ld hb,hd]; exact h
theorem eO {U τ:St} {b o:Nat} {L l:List AV} {x:AV} {K':AV->St->Prop} {Kp:AV->St->Prop} (hb:U.box b=some L) (hd:L.drop o=x::l) (h:K' x τ):(ak (some (false,1)) (.box b o) U).wp K τ K' Kp:=by rw [ld hb,hd]; exact h
end Go.Rip
namespace Go.Rip
open Go.Proofs Go.RowKit
def yb (x:Nd) (ks:List Int):Bool:=Ei x && Ui x.kind ks
theorem Je {k:Int} {t:aG} {n m a:Int} {ks:List Tre} {x:Nd} (h1:x.kind=k) (h2:x.text=t) (h3:x.n=n) (h4:x.m=m):(Tre.mk k t n m a ks).ok=(yb x (ks.map Tre.kind) && Tre.sY ks):=by
 rw [Tre.ok]
 congr 1
 unfold yb Ui
 rw [h1]
 cases hf:bA k with
 | none=>simp
 | some f =>
   rw [Fj (f:=f) (by rw [h1]; exact hf)]
   congr 1
   unfold eg
   simp only [h2,h3,h4]
theorem yx {l:List Nd}:∀ {ts:List Tre} {p q jD:Nat},re l p ts->(fj p ts)[q]?=some jD->∃ u,ts[q]?=some u/\gn l jD u
 | [],p,q,jD,h,hk=>by simp [fj] at hk
 | t::ts,p,0,jD,h,hk=>by simp [fj] at hk; subst hk; exact ⟨t,rfl,h.head⟩
 | t::ts,p,q+1,jD,h,hk=>by
   simp only [fj,List.getElem?_cons_succ] at hk
   obtain ⟨u,h1,h2⟩:=yx h.tail hk
   exact ⟨u,by simpa using h1,h2⟩
theorem Jj {l:List Nd}:∀ (N:Nat) (ts:List Tre) (p:Nat),(Tre.bq ts).length <= N->re l p ts->(∀ j s x,p <= j->j < p+(Tre.bq ts).length->gn l j s->l[j]?=some x->yb x (s.kids.map Tre.kind)=true)->Tre.sY ts=true
 | _,[],_,_,_,_=>by simp
 | 0,t::ts,_,hN,_,_=>by have:=t.dE; simp only [Tre.cx,cM] at hN; omega
 | N+1,.mk k tx n m a ks::ts,p,hN,h,cm=>by
   have Bk:(Tre.mk k tx n m a ks).flat.length=(Tre.bq ks).length+1:=mL (.mk k tx n m a ks)
   simp only [Tre.cx,cM] at hN cm
   rw [Tre.sr]
   obtain ⟨x,hx,h1,h2,h3,h4,h5,h6⟩:=h.head.rh
   rw [Je (k:=k) (t:=tx) (n:=n) (m:=m) (x:=x) h1 h3 h4 h5]
   have e1:yb x (ks.map Tre.kind)=true:=cm p _ x (bT _) (by omega) h.head hx
   have e2:=Jj N ks (p+1) (by omega) h.head.kids fun j s y ur qN=>cm j s y (by omega) (by omega)
   have e3:=Jj N ts (p+(Tre.flat (.mk k tx n m a ks)).length) (by omega) h.tail fun j s y ur qN=>cm j s y (by omega) (by omega)
   rw [e1,e2,e3]; rfl
theorem ace {t:Tre} (h:t.ok=true) {i:Nat} {s:Tre} (hs:gn t.flat i s):s.ok=true:=by
 have hi:i < t.flat.length:=by have:=hs.le; have:=s.dE; omega
 obtain ⟨s',h1,h2⟩:=xj (l:=t.flat) t.flat.length [t] 0 (by simp) ⟨[],by simp⟩ i (by omega) (by simpa using hi)
 rw [hs.inj h1]
 exact h2 (by simp [h])
theorem U1 {s:Tre} (h:s.ok=true) {l:List Nd} {i:Nat} {x:Nd} (hs:gn l i s) (hx:l[i]?=some x):yb x (s.kids.map Tre.kind)=true:=by
 obtain ⟨y,hy,h1,h2,h3,h4,h5,h6⟩:=hs.rh
 rw [hx] at hy; cases hy
 cases s with
 | mk k tx n m a ks =>
   rw [Je (k:=k) (t:=tx) (n:=n) (m:=m) (x:=x) h1 h3 h4 h5,bS] at h
   exact h.1
end Go.Rip
namespace Go.Rip
open Go.Proofs Go.RowKit
theorem J0 {U:St} {bt:BT} {l:Bool} {k:IntKind} {a b:Int} {A B:AV->St->Prop} {Kp:AV->St->Prop} (h:a < b->A (.bool true) U) (h':¬ a < b->B (.bool false) U):(aw .lss bt l (.int k a) (.int k b)).wp K U (fun v U=>av v (A v U) (B v U)) Kp:=by
 rw [cq,aj]
 by_cases hc:a < b
 . simp only [hc,dZ]; exact eH (h hc)
 . simp only [hc,eX]; exact eF (h' hc)
end Go.Rip
