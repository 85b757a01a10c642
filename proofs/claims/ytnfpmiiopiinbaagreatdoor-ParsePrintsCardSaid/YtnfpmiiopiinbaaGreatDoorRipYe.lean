/- Lemmas for the proof: no conditions. -/
import Derived.Test.YtnfpmiiopiinbaaGreatDoorRipZz
import Derived.Test.YtnfpmiiopiinbaaGreatDoorRipK
import Derived.Test.YtnfpmiiopiinbaaGreatDoorRipX
set_option linter.unusedVariables false
set_option linter.unusedSimpArgs false
set_option linter.loopingSimpArgs false
namespace Go.Rip
def tx (t:Tk):Tx:=(t.k,t.s)
def bz (l:List Nd):List Nd:=l.map fun x=>{ x with at_:=0 }
def At (L:List Tk) (i:Nat) (l:List Tx):Prop:=∃ r,(L.drop i).map tx=l++r
section
variable {L:List Tk} {E i j:Nat} {l l' a b:List Tx} {x:Tx} {w:aY}
theorem At.nil:At L i []:=⟨_,rfl⟩
theorem At.cons (h:At L i (x::l)):(∃ t,L[i]?=some t/\tx t=x)/\At L (i+1) l:=by
 obtain ⟨r,h⟩:=h
 have h0:=congrArg (fun z:List Tx=>z[0]?) h
 simp only [mr,List.getElem?_drop,Nat.add_zero,iX,List.getElem?_cons_zero] at h0
 have h1:=congrArg (fun z:List Tx=>z.drop 1) h
 simp only [iX,List.drop_succ_cons,dQ,<- List.map_drop,List.drop_drop] at h1
 refine ⟨?_,r,h1⟩
 cases ht:L[i]? with
 | none=>rw [ht] at h0; cases h0
 | some t=>rw [ht] at h0; exact ⟨t,rfl,by simpa using h0⟩
theorem Wt (h:At L i (x::l)):fL L i w=((x.1 == 3 || x.1 == 4) && x.2 == w):=by
 obtain ⟨⟨t,ht,rfl⟩,_⟩:=h.cons
 unfold fL; rw [ht]; rfl
theorem Hz:∀ (f n:Nat),n < 10 ^ f->ti 0 (jg f n)=(n:Int)
 | 0,n,h=>by simp at h; subst h; rfl
 | f+1,n,h=>by
   unfold jg
   split
   . rename_i hn
     show (10 * (0:Int)+(((48+n).toUInt8.toNat:Int) - 48))=n
     have:(48+n).toUInt8.toNat=48+n:=by simp [Nat.toUInt8,UInt8.toNat_ofNat']; omega
     omega
   . rename_i hn
     have ih:=Hz f (n / 10) (by rw [Nat.pow_succ] at h; omega)
     have hd:∀ (s:aY) (c:UInt8) (a:Int),ti a (s++[c])=10 * ti a s+((c.toNat:Int) - 48):=fun s c a=>by simp [ti,List.foldl_append]
     rw [hd,ih]
     have:(48+n % 10).toUInt8.toNat=48+n % 10:=by simp [Nat.toUInt8,UInt8.toNat_ofNat']; omega
     omega
theorem Se {n:Int} (h:eg n=true):DF (j6 n)=n:=by
 simp only [eg,da] at h
 have:=Hz 20 n.toNat (by
  have:(1000000:Nat) < 10 ^ 20:=by decide
  omega)
 show ti 0 (j6 n)=n
 unfold j6; rw [this]; omega
def Fo (L:List Tk) (hO j:Nat):Prop:=(∀ l',hO <= l'->aaw L l' j=none)/\fL L j ek=false/\fL L j cR=false
def FoT (L:List Tk) (j:Nat):Prop:=Fo L 2 j/\¬ (fL L j dO=true/\j+1 < L.length/\aaj L (j+1)=false)
def tP:List Int:=[17,18,20,21,22,23,24,25]
end
end Go.Rip
namespace Go.Rip
def adZ:List Tx:=[aP x6,aP nH,aP rI,aP nF,aP lP,aP lQ]
def Y1:List Tx:=[aP x5,aP qB,aP fC,aP j9,aP gO]
def TxK (x:Tx):Prop:=x.1=1\/x.1=2\/x=aP x.2
abbrev ae1 (y:Tx):Prop:=((y.1 == 3 || y.1 == 4) && y.2 == cR)=false
def Hd (hO:Nat) (l:List Tx):Prop:=∃ x r,l=x::r/\TxK x/\x ∉ Y1/\(2 <= hO->x ∉ adZ/\(x.1=1->∀ y r',r=y::r'->ae1 y))/\(5 <= hO->x ≠ aP s0)
section
variable {L:List Tk} {E:Nat}
theorem Kt {i:Nat} {x:Tx} {r:List Tx} {w:aY} (h:At L i (x::r)) (hx:TxK x) (hn:x ≠ aP w):fL L i w=false:=by
 rw [Wt h,Bool.eq_false_iff]
 intro e
 simp only [bX,jI,beq_iff_eq] at e
 rcases hx with hx | hx | hx
 . omega
 . omega
 . exact hn (by rw [hx,e.2])
def Rd (L:List Tk) (p:Nat->PR (List Nd)) (c i j:Nat) (T:List Nd):Prop:=∀ f,40 * (L.length - i)+c <= f->∃ ns,bz ns=bz T/\p f=.ok ns j
variable (L E) in
def adV (hO:Nat) (l:List Tx) (T:List Nd):Prop:=∀ i,At L i l->Fo L hO (i+l.length)->Rd L (fun f=>uD L E f hO i) (11 - hO) i (i+l.length) T
variable (L E) in
def adU (hO:Nat) (l:List Tx) (T:List Nd):Prop:=∀ i,At L i l->Fo L (hO+1) (i+l.length)->∀ f,40 * (L.length - i)+(11 - hO) <= f->∃ ns f',bz ns=bz T/\40 * (L.length - (i+l.length))+1 <= f'/\uD L E f hO i=L6 L E f' hO ns (i+l.length)
variable (L E) in
def Wa (l:List Tx) (T:List Nd):Prop:=∀ i,At L i l->Fo L 2 (i+l.length)->Rd L (fun f=>iQ L E f i) 10 i (i+l.length) T
variable (L E) in
def Xv (l:List Tx) (T:List Nd):Prop:=∀ i,At L i l->FoT L (i+l.length)->Rd L (fun f=>Df L E f i) 11 i (i+l.length) T
variable (L E) in
def abz (l:List Tx) (T:List Nd):Prop:=∀ i,At L i l->FoT L (i+l.length)->Rd L (fun f=>DA L E f i) 12 i (i+l.length) T
variable {l:List Tx} {T:List Nd} {hO:Nat}
structure Good (L:List Tk) (E:Nat) (k:Int) (l:List Tx) (T:List Nd):Prop where
 term:Xv L E l T
 first:k ≠ 9->Wa L E l T
 op:2 <= dk k->adV L E (dk k) l T
 ch:dk k=2\/dk k=3\/dk k=6\/dk k=7\/dk k=8->adU L E (dk k) l T
 hd:Hd (dk k) l
section
variable {k:Int} (g:Good L E k l T)
include g
end
end
end Go.Rip
namespace Go.Rip
@[simp] theorem ad0 {α β:Type} {a:α} {i:Nat} {f:α->Nat->PR β}:(PR.ok a i).bind f=f a i:=rfl
section
variable {L:List Tk} {E:Nat} {l l0 l1 l2 r:List Tx} {T T0 T1 T2:List Nd} {i f:Nat} {w:aY} {a:Int}
end
end Go.Rip
namespace Go.Rip
theorem pY (w:aY):∀ (l:List Tx) (ls:List (List Tx)),dr w (l::ls)=l++ls.flatMap fun m=>aP w::m
 | l,[]=>by simp [dr]
 | l,m::ls=>by rw [dr,pY w m ls]; simp
section
variable {L:List Tk} {E:Nat} {l l0 l1 l2 r:List Tx} {T T0 T1 T2:List Nd} {w:aY} {a:Int}
theorem Good.arg {k:Int} (g:Good L E k l T):abz L E l T:=by
 intro i hi hf f hfu
 obtain ⟨f,rfl⟩:∃ g,f=g+1:=⟨f - 1,by omega⟩
 obtain ⟨ns,h1,h2⟩:=g.term i hi hf f (by omega)
 have h2:Df L E f i=.ok ns (i+l.length):=h2
 obtain ⟨x,r,rfl,k1,k2,_⟩:=g.hd
 simp only [Y1,cF,List.not_mem_nil,or_false,not_or] at k2
 refine ⟨ns,h1,?_⟩
 show DA L E (f+1) i=_
 rw [DA,if_neg (by simp [Kt hi k1 k2.1]),if_neg (by simp [Kt hi k1 k2.2.1])]
 exact h2
end
end Go.Rip
namespace Go.Rip
theorem Tre.OQ:∀ ts:List Tre,Tre.OP ts=ts.map fun t=>(t.kind,t.pr)
 | []=>by rw [Tre.OP]; rfl
 | t::ts=>by rw [Tre.OP,Tre.OQ ts]; rfl
theorem Tre.c6 (k:Int) (x:aY) (n m a:Int) (ks:List Tre):(Tre.mk k x n m a ks).pr=ck k x n m (ks.map fun t=>(t.kind,t.pr)):=by rw [Tre.pr,Tre.OQ]
theorem Tre.KE:∀ {ts:List Tre},Tre.yo ts=true->∀ t ∈ ts,t.ok=true
 | [],_,t,h=>by cases h
 | t::ts,h,u,hu=>by
   rw [Tre.tN,bX] at h
   rcases cF.1 hu with rfl | hu
   . exact h.1
   . exact Tre.KE h.2 u hu
theorem Tre.xm {k:Int} {x:aY} {n m a:Int} {ks:List Tre} (h:(Tre.mk k x n m a ks).ok=true):∃ f,bw k=some f/\kr ⟨k,x,n,m,a,0⟩ f=true/\c7 (ks.map Tre.kind) f.kids=true/\∀ t ∈ ks,t.ok=true:=by
 rw [Tre.ok,bX] at h
 obtain ⟨h1,h2⟩:=h
 split at h1
 . rename_i f hf
   rw [bX] at h1
   exact ⟨f,hf,h1.1,h1.2,Tre.KE h2⟩
 . cases h1
theorem Tre.zi {ks:List Tre} {t:Tre} (h:t ∈ ks):t.flat.length <= (Tre.bQ ks).length:=by
 obtain ⟨a,b,rfl⟩:=List.append_of_mem h
 rw [Tre.yR,Tre.dh]; simp; omega
theorem lY {c:mZ} {ks:List Tre} (h:c7 (ks.map Tre.kind) [⟨c,1,1⟩]=true):∃ a,ks=[a]/\c.is a.kind=true:=by
 rw [vH] at h
 match ks,h with
 | [],h=>simp at h
 | [a],h=>exact ⟨a,rfl,by simpa using h⟩
 | a::b::r,h=>simp at h
theorem xf {c:mZ} {ks:List Tre} (h:c7 (ks.map Tre.kind) [⟨c,2,2⟩]=true):∃ a b,ks=[a,b]/\c.is a.kind=true/\c.is b.kind=true:=by
 rw [vH] at h
 match ks,h with
 | [],h=>simp at h
 | [a],h=>simp at h
 | [a,b],h=>exact ⟨a,b,rfl,by simpa using h⟩
 | a::b::c::r,h=>simp at h
theorem U7 {c:mZ} {ks:List Tre} (h:c7 (ks.map Tre.kind) [⟨c,3,3⟩]=true):∃ a b d,ks=[a,b,d]/\c.is a.kind=true/\c.is b.kind=true/\c.is d.kind=true:=by
 rw [vH] at h
 match ks,h with
 | [],h=>simp at h
 | [a],h=>simp at h
 | [a,b],h=>simp at h
 | [a,b,d],h=>exact ⟨a,b,d,rfl,by simpa using h⟩
 | a::b::c::d::r,h=>simp at h
theorem F6 {c:mZ} {lo hi:Nat} {ks:List Tre} (h:c7 (ks.map Tre.kind) [⟨c,lo,hi⟩]=true):lo <= ks.length/\∀ t ∈ ks,c.is t.kind=true:=by
 rw [vH] at h
 simp only [bX,da,List.length_map,ep,List.mem_map,forall_exists_index,and_imp,forall_apply_eq_imp_iff₂] at h
 exact ⟨h.1.1,h.2⟩
theorem ly {α:Type}:∀ {l:List α},1 <= l.length->∃ r x,l=r++[x]:=fun {l} h=>⟨l.dropLast,l.getLast (by intro e; subst e; simp at h),(List.dropLast_concat_getLast _).symm⟩
theorem CJ {c d:mZ} {lo:Nat} {ks:List Tre} (hl:ks.length <= 901) (h:c7 (ks.map Tre.kind) [⟨c,lo,900⟩,⟨d,1,1⟩]=true):∃ ps b,ks=ps++[b]/\lo <= ps.length/\(∀ t ∈ ps,c.is t.kind=true)/\d.is b.kind=true:=by
 have:=rk ⟨c,lo,900⟩ [d] (ks.map Tre.kind) (by simpa using hl)
 rw [show (⟨c,lo,900⟩::[d].map fun c=>(⟨c,1,1⟩:ng))=[⟨c,lo,900⟩,⟨d,1,1⟩] from rfl] at this
 rw [this] at h
 simp only [bX,da,List.length_map,gu,kJ] at h
 obtain ⟨h1,h2,h3⟩:=h
 obtain ⟨ps,b,rfl⟩:=ly (l:=ks) (by omega)
 simp only [cZ,gu,kJ,dI,Nat.add_sub_cancel,List.map_append] at h1 h2 h3
 rw [List.take_left' (by simp)] at h2
 rw [List.drop_left' (by simp)] at h3
 have h3:c7 ([b].map Tre.kind) [⟨d,1,1⟩]=true:=h3
 obtain ⟨b',e,h3⟩:=lY h3
 obtain rfl:b=b':=by simpa using e
 exact ⟨ps,b,rfl,by omega,by simpa using h2,h3⟩
theorem Kv {c d:mZ} {ks:List Tre} (h:c7 (ks.map Tre.kind) [⟨c,1,1⟩,⟨d,1,1⟩]=true):∃ a b,ks=[a,b]/\c.is a.kind=true/\d.is b.kind=true:=by
 have hl:=kX [c,d] _ h
 match ks,hl with
 | [a,b],_ =>
   have:=iz c [d] a.kind [b.kind] rfl
   have h:c7 (a.kind::[b.kind]) (⟨c,1,1⟩::[d].map fun c=>⟨c,1,1⟩)=true:=h
   rw [this,bX] at h
   obtain ⟨b',e,h3⟩:=lY (ks:=[b]) (c:=d) h.2
   obtain rfl:b=b':=by simpa using e
   exact ⟨a,b,rfl,h.1,h3⟩
theorem Kw {c d e:mZ} {ks:List Tre} (h:c7 (ks.map Tre.kind) [⟨c,1,1⟩,⟨d,1,1⟩,⟨e,1,1⟩]=true):∃ a b g,ks=[a,b,g]/\c.is a.kind=true/\d.is b.kind=true/\e.is g.kind=true:=by
 have hl:=kX [c,d,e] _ h
 match ks,hl with
 | [a,b,g],_ =>
   have:=iz c [d,e] a.kind [b.kind,g.kind] rfl
   have h:c7 (a.kind::[b.kind,g.kind]) (⟨c,1,1⟩::[d,e].map fun c=>⟨c,1,1⟩)=true:=h
   rw [this,bX] at h
   obtain ⟨b',g',e',h3,h4⟩:=Kv (ks:=[b,g]) (c:=d) (d:=e) h.2
   simp only [List.cons.injEq,and_true] at e'
   obtain ⟨rfl,rfl⟩:=e'
   exact ⟨a,b,g,rfl,h.1,h3,h4⟩
theorem xg {c d e:mZ} {lo:Nat} {ks:List Tre} (hl:ks.length <= 902) (h:c7 (ks.map Tre.kind) [⟨c,lo,900⟩,⟨d,1,1⟩,⟨e,1,1⟩]=true):∃ ps a b,ks=ps++[a,b]/\lo <= ps.length/\(∀ t ∈ ps,c.is t.kind=true)/\d.is a.kind=true/\e.is b.kind=true:=by
 have:=rk ⟨c,lo,900⟩ [d,e] (ks.map Tre.kind) (by simpa using hl)
 rw [show (⟨c,lo,900⟩::[d,e].map fun c=>(⟨c,1,1⟩:ng))=[⟨c,lo,900⟩,⟨d,1,1⟩,⟨e,1,1⟩] from rfl] at this
 rw [this] at h
 simp only [bX,da,List.length_map,gu,kJ] at h
 obtain ⟨h1,h2,h3⟩:=h
 obtain ⟨qs,b,rfl⟩:=ly (l:=ks) (by omega)
 obtain ⟨ps,a,rfl⟩:=ly (l:=qs) (by simp at h1; omega)
 have e2:(ps++[a]++[b]).length - (0+1+1)=ps.length:=by simp
 rw [e2] at h2 h3
 simp only [List.map_append,kI] at h2 h3
 rw [List.take_left' (by simp)] at h2
 rw [List.drop_left' (by simp)] at h3
 have h3:c7 ([a,b].map Tre.kind) [⟨d,1,1⟩,⟨e,1,1⟩]=true:=h3
 obtain ⟨a',b',e',h3,h4⟩:=Kv h3
 simp only [List.cons.injEq,and_true] at e'
 obtain ⟨rfl,rfl⟩:=e'
 exact ⟨ps,a,b,by simp,by simp at h1; omega,by simpa using h2,h3,h4⟩
theorem oc {k:Int} {x:aY} {n m a z:Int} {f:fQ} (h:kr ⟨k,x,n,m,a,z⟩ f=true):(f.text=false->x=[])/\(f.text=true->x ≠ []/\fA x=true)/\eg n=true/\eg m=true/\(f.n=false->n=0)/\(f.m=false->m=0):=by
 simp only [kr,bX,jI,beq_iff_eq] at h
 obtain ⟨⟨⟨⟨⟨h1,h2⟩,h3⟩,h4⟩,h5⟩,h6⟩:=h
 refine ⟨fun e=>?_,fun e=>⟨?_,?_⟩,h3,h4,fun e=>?_,fun e=>?_⟩
 . rw [e] at h1; simpa using h1.symm
 . rw [e] at h1; simpa using h1.symm
 . rw [e] at h2; simpa using h2
 . rw [e] at h5; simpa using h5
 . rw [e] at h6; simpa using h6
end Go.Rip
namespace Go.Rip
def l9 (x:Tx):Prop:=x.2 ≠ []/\e8 x.2=(0,x.1,x.2)
instance (x:Tx):Decidable (l9 x):=inferInstanceAs (Decidable (_/\_))
theorem V9:∀ w ∈ iU++ef,l9 (aP w):=by decide
theorem Vf {x:aY} (h:fA x=true) (h0:x ≠ []):l9 (dM x):=⟨h0,of_decide_eq_true h⟩
theorem Ks {n:Nat} (h:n < 10):eA (48+n).toUInt8=true:=by
 have:(48+n).toUInt8.toNat=48+n:=by simp [Nat.toUInt8,UInt8.toNat_ofNat']; omega
 rw [mE]; omega
theorem HA:∀ (f n:Nat),(jg f n).all eA=true
 | 0,n=>rfl
 | f+1,n=>by
   unfold jg
   split
   . rename_i h
     simp only [List.all_cons,List.all_nil,Bool.and_true]
     exact Ks h
   . rw [List.all_append,HA f]
     simp only [List.all_cons,List.all_nil,Bool.and_true,Bool.true_and]
     exact Ks (Nat.mod_lt _ (by decide))
theorem Ku:∀ (f n:Nat),jg (f+1) n ≠ []
 | f,n=>by
   unfold jg
   split <;> simp
theorem ET:∀ (f n:Nat),1 <= n->n < 10 ^ f->(jg f n).head? ≠ some 48
 | 0,n,h,h'=>by simp at h'; omega
 | f+1,n,h,h'=>by
   unfold jg
   split
   . rename_i h9
     simp only [List.head?_cons,ne_eq,iW]
     intro e
     have e2:(48+n).toUInt8.toNat=48+n:=by simp [Nat.toUInt8,UInt8.toNat_ofNat']; omega
     rw [e] at e2
     have:(48:UInt8).toNat=48:=rfl
     omega
   . rename_i h9
     have ih:=ET f (n / 10) (by omega) (by rw [Nat.pow_succ] at h'; omega)
     have hn:jg f (n / 10) ≠ []:=by
      cases f with
      | zero=>simp at h'; omega
      | succ f=>exact Ku f _
     rw [List.head?_append]
     cases hh:(jg f (n / 10)).head? with
     | none=>exact absurd (List.head?_eq_none_iff.1 hh) hn
     | some c=>rw [hh] at ih; simpa using ih
theorem aaY {s:aY} (h:s.all eA=true):s.takeWhile cq=s:=by
 have:∀ x ∈ s,cq x=true:=fun x hx=>by
  have:=ep.1 h x hx
  simp [cq,this]
 clear h
 induction s with
 | nil=>rfl
 | cons c s ih=>rw [lL,this c (by simp),if_pos rfl,ih fun x hx=>this x (by simp [hx])]
theorem LY {n:Int} (h:eg n=true):l9 (iC n):=by
 have hn:=of_decide_eq_true h
 have afU:(1000000:Nat) < 10 ^ 20:=by decide
 have hd:=HA 20 n.toNat
 have cV:=Ku 19 n.toNat
 have hv:=Se h
 refine ⟨cV,?_⟩
 have htw:=aaY hd
 obtain ⟨c,r,ZL⟩:∃ c r,jg 20 n.toNat=c::r:=by
  cases e:jg 20 n.toNat with
  | nil=>exact absurd e cV
  | cons c r=>exact ⟨c,r,rfl⟩
 show e8 (j6 n)=(0,2,j6 n)
 have hE:kF (j6 n)=0:=by
  unfold kF
  rw [if_neg (by unfold j6; simp [hd]),if_neg ?_,if_neg ?_]
  . have h1:=qR (j6 n) 0 hd (by omega)
    have hle:=Aq (j6 n) 0 (by omega)
    show ¬ 1000000 < iw 0 (j6 n)
    have key:∀ (s:aY) (a b:Int),s.all eA=true->0 <= b->min b 1000001=a->iw a s=min (ti b s) 1000001:=by
     intro s
     induction s with
     | nil=>intro a b _ _ e; show a=_; rw [<- e]; rfl
     | cons c s ih =>
       intro a b hs hb e
       simp only [List.all_cons,bX] at hs
       have hc:=mE.1 hs.1
       exact ih _ (10 * b+((c.toNat:Int) - 48)) hs.2 (by omega) (by show min _ _=min (10 * a+((c.toNat:Int) - 48)) 1000001; omega)
    have:=key (j6 n) 0 0 hd (by omega) rfl
    have hv:ti 0 (j6 n)=n:=hv
    rw [this,hv]; omega
  . rintro ⟨h1,h2⟩
    by_cases h9:n.toNat < 10
    . unfold j6 jg at h1
      rw [if_pos h9] at h1
      simp at h1
    . exact ET 20 n.toNat (by omega) (by omega) h2
 unfold e8
 simp only
 unfold j6 at hE ⊢
 rw [htw,ZL]
 rw [ZL] at hE
 have hc:eA c=true:=by
  rw [ZL] at hd
  simp only [List.all_cons,bX] at hd
  exact hd.1
 simp only [hc,if_true,hE]
theorem KL:∀ w ∈ ef,∃ c r,w=c::r/\cq c=false/\c ≠ 62/\c ≠ 32/\c ≠ 10/\c ≠ 126/\(c=61->w=iJ):=by
 intro w hw
 simp only [ef,cF,List.not_mem_nil,or_false] at hw
 rcases hw with rfl | rfl | rfl | rfl | rfl | rfl | rfl | rfl | rfl | rfl | rfl | rfl | rfl | rfl | rfl | rfl <;> exact ⟨_,_,rfl,by decide,by decide,by decide,by decide,by decide,by decide⟩
theorem Xy {c:UInt8} (h:cq c=true):c ≠ 62/\c ≠ 32/\c ≠ 10/\c ≠ 126/\c ≠ 61:=by
 refine ⟨?_,?_,?_,?_,?_⟩ <;> (rintro rfl; exact absurd h (by decide))
theorem IA {x:Tx} (h:l9 x):∃ c r,x.2=c::r/\c ≠ 62/\c ≠ 32/\c ≠ 10/\c ≠ 126/\(c=61->x.2=iJ)/\(x.1=4->cq c=false/\x.2 ∈ ef)/\(x.1 ≠ 4->x.2.all cq=true/\x.1 ≠ 4):=by
 have key:(∃ c r,x.2=c::r/\cq c=true)->x.1 ≠ 4->x.2.all cq=true->∃ c r,x.2=c::r/\c ≠ 62/\c ≠ 32/\c ≠ 10/\c ≠ 126/\(c=61->x.2=iJ)/\(x.1=4->cq c=false/\x.2 ∈ ef)/\(x.1 ≠ 4->x.2.all cq=true/\x.1 ≠ 4):=by
  rintro ⟨c,r,e,hc⟩ h4 ha
  obtain ⟨a1,a2,a3,a4,a5⟩:=Xy hc
  exact ⟨c,r,e,a1,a2,a3,a4,fun e=>absurd e a5,fun e=>absurd e h4,fun _=>⟨ha,h4⟩⟩
 have kw:∀ w ∈ iU,w.all cq=true:=by decide
 have first:∀ {s:aY},s ≠ []->s.all cq=true->∃ c r,s=c::r/\cq c=true:=by
  intro s h0 h
  cases s with
  | nil=>exact absurd rfl h0
  | cons c r=>simp only [List.all_cons,bX] at h; exact ⟨c,r,rfl,h.1⟩
 rcases p5 h.2 with k | k | k | k
 . exact key (first h.1 k.2.2.2.2) (by omega) k.2.2.2.2
 . have hd:=(KA (Is (by rw [h.2,k.1]) h.1)).1
   have ha:x.2.all cq=true:=by
    rw [ep] at hd ⊢
    intro c hc; simp [cq,hd c hc]
   exact key (first h.1 ha) (by omega) ha
 . exact key (first h.1 (kw _ k.2)) (by omega) (kw _ k.2)
 . obtain ⟨c,r,e,h1,h2,h3,h4,h5,h6⟩:=KL _ k.2
   exact ⟨c,r,e,h2,h3,h4,h5,h6,fun _=>⟨h1,k.2⟩,fun h=>absurd k.1 h⟩
theorem Iz {p:UInt8->Bool}:∀ {s t:aY},s.all p=true->(∀ c r,t=c::r->p c=false)->(s++t).takeWhile p=s
 | [],[],_,_=>rfl
 | [],c::r,_,h=>by rw [mw,lL,h c r rfl]; rfl
 | c::s,t,h,k=>by
   simp only [List.all_cons,bX] at h
   rw [iX,lL,h.1,if_pos rfl,Iz h.2 k]
theorem Ub {s t:aY} (h0:s ≠ []) (h:s.all cq=true) (k:∀ c r,t=c::r->cq c=false):e8 (s++t)=e8 s:=by
 have e1:=Iz h k
 have e2:=Iz (t:=[]) h (by simp)
 rw [gw] at e2
 unfold e8
 simp only [e1,e2]
 cases s with
 | nil=>exact absurd rfl h0
 | cons c s=>rfl
theorem Ud {w t:aY} (hw:w ∈ ef) (h1:w=eD->∀ c r,t=c::r->c ≠ 61) (h2:w=qA->∀ c r,t=c::r->c ≠ 62):e8 (w++t)=(0,4,w):=by
 obtain ⟨c,r,e,hc,_⟩:=KL w hw
 have etw:(w++t).takeWhile cq=[]:=by rw [e,iX,lL,hc]; rfl
 unfold e8
 simp only [etw]
 have hf:ef.find? (fun x=>x.isPrefixOf (w++t))=some w:=by
  simp only [ef,cF,List.not_mem_nil,or_false] at hw
  rcases hw with rfl | rfl | rfl | rfl | rfl | rfl | rfl | rfl | rfl | rfl | rfl | rfl | rfl | rfl | rfl | rfl
  all_goals first
   | rfl
   | (cases t with
      | nil=>rfl
      | cons c r =>
        have e2:((62:UInt8) == c)=false:=by simp [Ne.symm (h2 rfl c r rfl)]
        simp [ef,List.find?,List.isPrefixOf,cR,gd,iJ,rF,rD,qA,e2])
   | (cases t with
      | nil=>rfl
      | cons c r =>
        have e2:((61:UInt8) == c)=false:=by simp [Ne.symm (h1 rfl c r rfl)]
        simp [ef,List.find?,List.isPrefixOf,cR,gd,iJ,rF,rD,qA,sY,qz,ek,eV,qB,rG,dW,dO,eD,e2])
 rw [hf]
def Uq (a:Tx) (t:aY):Prop:=(a.1 ≠ 4->∀ c r,t=c::r->cq c=false)/\(a.2=eD->∀ c r,t=c::r->c ≠ 61)/\∀ c r,t=c::r->c ≠ 62
theorem Uc {a:Tx} {t:aY} (h:l9 a) (k:Uq a t):e8 (a.2++t)=(0,a.1,a.2):=by
 obtain ⟨c,r,e,_,_,_,_,_,h4,hn⟩:=IA h
 by_cases h':a.1=4
 . rw [Ud (h4 h').2 k.2.1 fun _=>k.2.2,h']
 . rw [Ub h.1 (hn h').1 (k.1 h'),h.2]
theorem MQ {a:Tx} {c:UInt8} {t:aY} (h:c=32\/c=10):Uq a (c::t):=by
 refine ⟨fun _ c' r e=>?_,fun _ c' r e=>?_,fun c' r e=>?_⟩
 all_goals
  obtain ⟨rfl,_⟩:=List.cons.inj e
  rcases h with rfl | rfl <;> decide
theorem Wd {a:Tx}:Uq a []:=⟨fun _ c r e=>(nomatch e),fun _ c r e=>(nomatch e),fun c r e=>(nomatch e)⟩
theorem Dg {a b:Tx} {l:List Tx}:eM (a::b::l)=a.2++(if nh a b then [32] else [])++eM (b::l):=rfl
theorem HH {s:aY} {p f:Nat} {acc:List Tk} {a:Tx} {t:aY} (h:l9 a) (hs:s.drop p=a.2++t) (hb:Uq a t):fS (f+1) s p acc=if acc.length=900 then .bad p 5 else fS f s (p+a.2.length) (acc++[⟨a.1,a.2,p⟩]):=by
 obtain ⟨c,r,e,_,Zs,qH,yV,_⟩:=IA h
 have ht:=Uc h hb
 rw [e] at hs ht
 rw [fS,hs]
 rw [iX] at ht ⊢
 have n32:c.toNat ≠ 32:=fun e=>Zs (UInt8.toNat_inj.1 e)
 have n10:c.toNat ≠ 10:=fun e=>qH (UInt8.toNat_inj.1 e)
 have n126:c.toNat ≠ 126:=fun e=>yV (UInt8.toNat_inj.1 e)
 simp only [n32,n10,n126,or_self,if_false,ht,ne_eq,not_true]
 rw [e]
theorem Oo {s:aY} {p f:Nat} {acc:List Tk} {c:UInt8} {t:aY} (hs:s.drop p=c::t) (hc:c=32\/c=10):fS (f+1) s p acc=fS f s (p+1) acc:=by
 rw [fS,hs]
 rcases hc with rfl | rfl <;> rfl
theorem GK {s t:aY} {p:Nat} (h:s.drop p=t) (h0:t ≠ []):p+t.length=s.length:=by
 have:=congrArg List.length h
 have:0 < t.length:=List.length_pos_iff.2 h0
 simp at *; omega
theorem GJ {s a t:aY} {p:Nat} (h:s.drop p=a++t):s.drop (p+a.length)=t:=by rw [<- List.drop_drop,h,List.drop_left]
end Go.Rip
namespace Go.Rip
theorem BR {w:aY} {x:Tx}:∀ {ls:List (List Tx)},x ∈ dr w ls->x=aP w\/∃ l ∈ ls,x ∈ l
 | [],h=>by simp [dr] at h
 | [l],h=>.inr ⟨l,by simp,h⟩
 | l::m::ls,h=>by
   rw [dr,fN,cF] at h
   rcases h with h | h | h
   . exact .inr ⟨l,by simp,h⟩
   . exact .inl h
   . rcases BR h with h | ⟨k,h1,h2⟩
     . exact .inl h
     . exact .inr ⟨k,List.mem_cons_of_mem _ h1,h2⟩
theorem JU {k:Int} {n:Nat} {l:List Tx} {x:Tx} (h:x ∈ cY k n l):x=aP ek\/x=aP eV\/x ∈ l:=by
 unfold cY at h
 split at h
 . exact .inr (.inr h)
 . simp only [iX,cF,fN,List.not_mem_nil,or_false] at h
   rcases h with h | h | h
   . exact .inl h
   . exact .inr (.inr h)
   . exact .inr (.inl h)
theorem Wu {c:Prop} [Decidable c] {x:Tx} {A B:List Tx} {G:Prop} (h:x ∈ if c then A else B) (h1:c->x ∈ A->G) (h2:¬ c->x ∈ B->G):G:=by
 split at h
 . exact h1 ‹_› h
 . exact h2 ‹_› h
theorem OM {P:Tx->Prop} {k:Int} {t:aY} {n m:Int} {ks:List (Int × List Tx)} {f:fQ} (hf:bw k=some f) (hw:∀ w ∈ iU++ef,P (aP w)) (ht:f.text=true->P (dM t)) (hn:P (iC n)) (hm:P (iC m)) (hk:∀ y ∈ ks,∀ x ∈ y.2,P x):∀ x ∈ ck k t n m ks,P x:=by
 have hg:∀ i,∀ x ∈ (ks.getD i (0,[])).2,P x:=by
  intro i x hx
  rw [mv] at hx
  cases h:ks[i]? with
  | none=>rw [h] at hx; simp at hx
  | some y=>rw [h] at hx; exact hk y (fl h) x hx
 have hb:∀ least i,∀ x ∈ cY (ks.getD i (0,[])).1 least (ks.getD i (0,[])).2,P x:=by
  intro least i x hx
  rcases JU hx with rfl | rfl | h
  . exact hw _ (by decide)
  . exact hw _ (by decide)
  . exact hg i x h
 have hs:∀ w ∈ iU++ef,∀ j,∀ x ∈ dr w ((ks.map (·.2)).take j),P x:=by
  intro w NY j x hx
  rcases BR hx with rfl | ⟨l,h1,h2⟩
  . exact hw _ NY
  . obtain ⟨y,hy,rfl⟩:=List.mem_map.1 (List.mem_of_mem_take h1)
    exact hk y hy x h2
 have eE:∀ w ∈ iU++ef,∀ x ∈ dr w (ks.map (·.2)),P x:=by
  intro w NY x hx
  exact hs w NY ks.length x (by rw [o4 (by simp)]; exact hx)
 have hq:∀ x ∈ dr dO (ks.map fun x=>cY x.1 1 x.2),P x:=by
  intro x hx
  rcases BR hx with rfl | ⟨l,h1,h2⟩
  . exact hw _ (by decide)
  . obtain ⟨y,hy,rfl⟩:=List.mem_map.1 h1
    rcases JU h2 with rfl | rfl | h
    . exact hw _ (by decide)
    . exact hw _ (by decide)
    . exact hk y hy x h
 have aev:∀ k,P (aP (oS k)):=by
  intro k
  unfold oS
  repeat' split
  all_goals exact hw _ (by decide)
 have G7:∀ c:Prop,[Decidable c]->P (aP (if c then j9 else gO)):=by
  intro c _
  split <;> exact hw _ (by decide)
 intro x hx
 have W:∀ w ∈ iU++ef,x=aP w->P x:=fun w NY e=>e ▸ hw w NY
 have key:(∀ j,x ∈ (ks.getD j (0,[])).2->P x)/\(∀ l j,x ∈ cY (ks.getD j (0,[])).1 l (ks.getD j (0,[])).2->P x):=⟨fun j=>hg j x,fun l j=>hb l j x⟩
 unfold ck at hx
 simp only at hx
 have jh:(k=2\/k=3\/k=4\/k=5\/k=12\/k=13\/k=14\/k=16\/k=31\/k=32\/k=33\/k=37\/k=34)->P (dM t):=by
  intro h
  apply ht
  rcases h with rfl | rfl | rfl | rfl | rfl | rfl | rfl | rfl | rfl | rfl | rfl | rfl | rfl <;> (simp [bw] at hf; rw [<- hf])
 repeat' (refine Wu hx (fun c hx=>?_) (fun c hx=>?_))
 all_goals try simp only [iX,kI,cF,fN,List.not_mem_nil,or_false,false_or] at hx
 all_goals try exact hx.elim
 all_goals repeat' (refine Or.elim hx (fun hx=>?_) (fun hx=>?_))
 all_goals first
  | (subst hx; first | exact hw _ (by decide) | exact hn | exact hm | exact aev _ | exact G7 _ | exact jh (by omega))
  | exact hg _ _ hx
  | exact hb _ _ _ hx
  | exact hs _ (by decide) _ _ hx
  | exact eE _ (by decide) _ hx
  | exact hq _ hx
theorem Mc:∀ (N:Nat) (t:Tre),t.flat.length <= N->t.ok=true->∀ x ∈ t.pr,l9 x
 | 0,t,hN,_=>by have:=t.du; omega
 | N+1,.mk k tx n m a ks,hN,ho=>by
   obtain ⟨fo,eX,h1,h2,h3⟩:=Tre.xm ho
   have hlen:(Tre.bQ ks).length+1=(Tre.mk k tx n m a ks).flat.length:=by rw [Tre.fY]; simp
   obtain ⟨f1,f2,f3,f4,f5,f6⟩:=oc h1
   rw [Tre.c6]
   refine OM eX V9 (fun e=>Vf (f2 e).2 (f2 e).1) (LY f3) (LY f4) fun y hy=>?_
   obtain ⟨t,ht,rfl⟩:=List.mem_map.1 hy
   have:=Tre.zi ht
   exact Mc N t (by omega) (h3 t ht)
end Go.Rip
namespace Go.Rip
def ik:List Tre->aY->aY × Int
 | [],acc=>if 2500 < acc.length then ([],5) else (acc,0)
 | t::ts,acc=>if (dG t.pr).2 ≠ 0 then ([],(dG t.pr).2) else ik ts (acc++(dG t.pr).1++[10])
def mU (t:Tre):aY × Int:=if t.kind ≠ 1 then dG t.pr else ik t.kids []
theorem FC {l:List Tx} (h:(dG l).2=0):(dG l).1=eM l/\l.length <= 900/\(eM l).length <= 2500:=by
 unfold dG at h ⊢
 split at h
 . cases h
 . rename_i h1
   split at h
   . cases h
   . rename_i h2
     rw [if_neg h1,if_neg h2]
     exact ⟨rfl,by omega,by omega⟩
theorem RT {x:Tx} (h:l9 x):∀ c ∈ x.2,iI c=true:=by
 have aln:∀ c,cq c=true->iI c=true:=by
  intro c hc
  simp only [cq,eA,jx,wY,iI,jI,da] at hc ⊢
  omega
 obtain ⟨c,r,e,_,_,_,_,_,h4,hn⟩:=IA h
 by_cases h':x.1=4
 . have key:∀ w ∈ ef,∀ c ∈ w,iI c=true:=by decide
   exact key _ (h4 h').2
 . intro c hc
   exact aln c (ep.1 (hn h').1 c hc)
end Go.Rip
