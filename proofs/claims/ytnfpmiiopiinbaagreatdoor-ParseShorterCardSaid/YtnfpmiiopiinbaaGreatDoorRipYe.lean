/- Lemmas for the proof: no conditions. -/
import Derived.Test.YtnfpmiiopiinbaaGreatDoorRipZz
import Derived.Test.YtnfpmiiopiinbaaGreatDoorRipK
import Derived.Test.YtnfpmiiopiinbaaGreatDoorRipX
set_option linter.unusedVariables false
set_option linter.unusedSimpArgs false
set_option linter.loopingSimpArgs false
namespace Go.Rip
def tx (t:Tk):Tx:=(t.k,t.s)
def bz (l:List Nd):List Nd:=l.map fun x=>{ x with at_:=0 }
theorem OR (a b:List Nd):bz (a++b)=bz a++bz b:=by simp [bz]
theorem Hz {a b:List Nd} (h:bz a=bz b):a.length=b.length:=by
 have:=congrArg List.length h
 simpa [bz] using this
theorem eS {k:Int} {t:aG} {n m a a':Int} {l l':List Nd} (h:bz l=bz l'):bz (node k t n m a l)=bz (node k t n m a' l'):=by
 have hl:=Hz h
 unfold node
 unfold bz at h ⊢
 simp [h,hl]
theorem gN {a b a' b':List Nd} (h:bz a=bz a') (k:bz b=bz b'):bz (a++b)=bz (a'++b'):=by rw [OR,OR,h,k]
def At (L:List Tk) (i:Nat) (l:List Tx):Prop:=∃ r,(L.drop i).map tx=l++r
section
variable {L:List Tk} {E i j:Nat} {l l' a b:List Tx} {x:Tx} {w:aG}
theorem At.cons (h:At L i (x::l)):(∃ t,L[i]?=some t/\tx t=x)/\At L (i+1) l:=by
 obtain ⟨r,h⟩:=h
 have h0:=congrArg (fun z:List Tx=>z[0]?) h
 simp only [nE,List.getElem?_drop,Nat.add_zero,gE,List.getElem?_cons_zero] at h0
 have h1:=congrArg (fun z:List Tx=>z.drop 1) h
 simp only [gE,List.drop_succ_cons,eD,<- List.map_drop,List.drop_drop] at h1
 refine ⟨?_,r,h1⟩
 cases ht:L[i]? with
 | none=>rw [ht] at h0; cases h0
 | some t=>rw [ht] at h0; exact ⟨t,rfl,by simpa using h0⟩
theorem At.tail (h:At L i (x::l)):At L (i+1) l:=h.cons.2
theorem At.app (h:At L i (a++b)):At L i a/\At L (i+a.length) b:=by
 obtain ⟨r,h⟩:=h
 refine ⟨⟨b++r,by rw [h,gi]⟩,⟨r,?_⟩⟩
 rw [<- List.drop_drop,List.map_drop,h,gi,List.drop_left]
theorem At.le (h:At L i l) (hi:i <= L.length):i+l.length <= L.length:=by
 obtain ⟨r,h⟩:=h
 have:=congrArg List.length h
 simp only [List.length_map,List.length_drop,cM] at this
 omega
theorem At.le' (h:At L i (x::l)):i+(x::l).length <= L.length:=by
 obtain ⟨⟨t,ht,_⟩,_⟩:=h.cons
 exact h.le (Nat.le_of_lt (dC.1 ht).1)
theorem dU (h:At L i (x::l)):bf L i w=((x.1 == 3 || x.1 == 4) && x.2 == w):=by
 obtain ⟨⟨t,ht,rfl⟩,_⟩:=h.cons
 unfold bf; rw [ht]; rfl
theorem AG {k:Nat} (h:At L i (x::l)):qy L i k=(x.1 == k):=by
 obtain ⟨⟨t,ht,rfl⟩,_⟩:=h.cons
 unfold qy; rw [ht]; rfl
theorem Mp:(az w).1=3\/(az w).1=4:=by
 unfold az
 cases w with
 | nil=>exact .inr rfl
 | cons c r=>by_cases h:lT c=true <;> simp [h]
theorem fx (h:At L i (az w::l)):bf L i w=true:=by
 rw [dU h]
 have:(az w).2=w:=rfl
 rcases Mp (w:=w) with h | h <;> simp [h,this]
theorem di (h:At L i (az w::l)):bI L w i=.ok () (i+1):=by unfold bI; rw [if_pos (fx h)]
theorem kK (h:At L i (eC w::l)):gx L i=.ok w (i+1):=by
 obtain ⟨⟨t,ht,e⟩,_⟩:=h.cons
 unfold gx; rw [ht]
 have h1:t.k=1:=congrArg Prod.fst e
 have h2:t.s=w:=congrArg Prod.snd e
 simp [h1,h2]
theorem IS:∀ (f n:Nat),n < 10 ^ f->kX 0 (kZ f n)=(n:Int)
 | 0,n,h=>by simp at h; subst h; rfl
 | f+1,n,h=>by
   unfold kZ
   split
   . rename_i hn
     show (10 * (0:Int)+(((48+n).toUInt8.toNat:Int) - 48))=n
     have:(48+n).toUInt8.toNat=48+n:=by simp [Nat.toUInt8,UInt8.toNat_ofNat']; omega
     omega
   . rename_i hn
     have ih:=IS f (n / 10) (by rw [Nat.pow_succ] at h; omega)
     have hd:∀ (s:aG) (c:UInt8) (a:Int),kX a (s++[c])=10 * kX a s+((c.toNat:Int) - 48):=fun s c a=>by simp [kX,List.foldl_append]
     rw [hd,ih]
     have:(48+n % 10).toUInt8.toNat=48+n % 10:=by simp [Nat.toUInt8,UInt8.toNat_ofNat']; omega
     omega
theorem HH {n:Int} (h:dH n=true):sd (mK n)=n:=by
 simp only [dH,ee] at h
 have:=IS 20 n.toNat (by
  have:(1000000:Nat) < 10 ^ 20:=by decide
  omega)
 show kX 0 (mK n)=n
 unfold mK; rw [this]; omega
theorem qA {n:Int} (hn:dH n=true) (h:At L i (iI n::l)):iC L i=.ok n (i+1):=by
 obtain ⟨⟨t,ht,e⟩,_⟩:=h.cons
 unfold iC; rw [ht]
 have h1:t.k=2:=congrArg Prod.fst e
 have h2:t.s=mK n:=congrArg Prod.snd e
 simp [h1,h2,HH hn]
def Fo (L:List Tk) (lev j:Nat):Prop:=(∀ l',lev <= l'->nD L l' j=none)/\bf L j cB=false/\bf L j bL=false
def Hi (L:List Tk) (j:Nat):Prop:=Fo L 2 j/\¬ (bf L j cn=true/\j+1 < L.length/\tn L (j+1)=false)
theorem Fo.up {lev zF:Nat} (h:Fo L lev j) (k:lev <= zF):Fo L zF j:=⟨fun l' hl=>h.1 l' (by omega),h.2⟩
def stops:List aG:=[cg,cn,nP,eG,rP,cw,qq]
theorem YP {lev:Nat} (h:∀ w ∈ [CA,yD,gk,sO,sN,rO,tT,tu],bf L j w=false):nD L lev j=none:=by
 simp only [cJ,List.not_mem_nil,or_false,forall_eq_or_imp,forall_eq] at h
 obtain ⟨h1,h2,h3,h4,h5,h6,h7,h8⟩:=h
 unfold nD
 simp only [h1,h2,h3,h4,h5,h6,h7,h8,bQ,if_false]
 repeat' split
 all_goals rfl
theorem wC (hw:w ∈ stops) (h:At L j (az w::l)):Fo L 2 j:=by
 have key:∀ w ∈ stops,∀ v ∈ [CA,yD,gk,sO,sN,rO,tT,tu,cB,bL],(((az w).1 == 3 || (az w).1 == 4) && (az w).2 == v)=false:=by decide
 have k:=key w hw
 refine ⟨fun l' _=>YP fun v hv=>?_,?_,?_⟩
 . rw [dU h]; exact k v (List.mem_append_left [cB,bL] hv:_)
 . rw [dU h]; exact k _ (by simp)
 . rw [dU h]; exact k _ (by simp)
theorem uj (hw:w ∈ stops) (hs:w ≠ cn) (h:At L j (az w::l)):Hi L j:=by
 refine ⟨wC hw h,fun k=>?_⟩
 have key:∀ w ∈ stops,w ≠ cn->(((az w).1 == 3 || (az w).1 == 4) && (az w).2 == cn)=false:=by decide
 rw [dU h,key w hw hs] at k
 cases k.1
def nU:List Int:=[17,18,20,21,22,23,24,25]
theorem NW {k:Int} (hk:k ∈ nU) (h:At L j (az (jP k)::l)):nD L (bJ k) j=some k/\Fo L (bJ k+1) j:=by
 have hw:∀ v,bf L j v=(((az (jP k)).1 == 3 || (az (jP k)).1 == 4) && (az (jP k)).2 == v):=fun v=>dU h
 simp only [nU,cJ,List.not_mem_nil,or_false] at hk
 rcases hk with rfl | rfl | rfl | rfl | rfl | rfl | rfl | rfl
 all_goals
  refine ⟨by unfold nD; simp only [hw]; rfl,fun l' hl=>?_,by rw [hw]; rfl,by rw [hw]; rfl⟩
  unfold nD
  simp only [hw]
  repeat' split
  all_goals first
   | rfl
   | (exfalso; simp only [bJ] at hl; revert hl; simp; omega)
   | (exfalso; revert ‹_=true›; decide)
end
end Go.Rip
namespace Go.Rip
def Eb:List Tx:=[az ox,az fX,az lh,az il,az gH,az ig]
def BW:List Tx:=[az qF,az nf,az dI,az fH,az dz]
def TxK (x:Tx):Prop:=x.1=1\/x.1=2\/x=az x.2
abbrev NO (y:Tx):Prop:=((y.1 == 3 || y.1 == 4) && y.2 == bL)=false
def Hd (lev:Nat) (l:List Tx):Prop:=∃ x r,l=x::r/\TxK x/\x ∉ BW/\(2 <= lev->x ∉ Eb/\(x.1=1->∀ y r',r=y::r'->NO y))/\(5 <= lev->x ≠ az pK)
theorem Hd.low {lev zF:Nat} {l:List Tx} (h:Hd lev l) (k:zF <= lev):Hd zF l:=by
 obtain ⟨x,r,h1,h2,h3,h4,h5⟩:=h
 exact ⟨x,r,h1,h2,h3,fun e=>h4 (by omega),fun e=>h5 (by omega)⟩
theorem Hd.par {lev:Nat} {l:List Tx}:Hd lev (az cB::l):=by
 refine ⟨_,_,rfl,.inr (.inr rfl),by decide,fun _=>⟨by decide,fun h=>?_⟩,fun _=>by decide⟩
 cases h
theorem Hd.app {lev:Nat} {l l':List Tx} (h:Hd lev l) (k:∀ y r',l'=y::r'->NO y):Hd lev (l++l'):=by
 obtain ⟨x,r,rfl,h2,h3,h4,h5⟩:=h
 refine ⟨x,r++l',rfl,h2,h3,fun e=>⟨(h4 e).1,fun e1 y r' h=>?_⟩,h5⟩
 cases r with
 | nil=>exact k y r' h
 | cons z r =>
   have hz:z=y:=by simp only [gE,List.cons.injEq] at h; exact h.1
   exact (h4 e).2 e1 y r (by rw [hz])
section
variable {L:List Tk} {E:Nat}
theorem mb {i:Nat} {x:Tx} {r:List Tx} {w:aG} (h:At L i (x::r)) (hx:TxK x) (hn:x ≠ az w):bf L i w=false:=by
 rw [dU h,Bool.eq_false_iff]
 intro e
 simp only [bS,jW,beq_iff_eq] at e
 rcases hx with hx | hx | hx
 . omega
 . omega
 . exact hn (by rw [hx,e.2])
def Rd (L:List Tk) (p:Nat->PR (List Nd)) (c i j:Nat) (T:List Nd):Prop:=∀ f,40 * (L.length - i)+c <= f->∃ ns,bz ns=bz T/\p f=.ok ns j
variable (L E) in
def ra (l:List Tx) (T:List Nd):Prop:=∀ i,At L i l->bf L (i+l.length) cB=false->Rd L (fun f=>fY L E f i) 1 i (i+l.length) T
variable (L E) in
def mG (lev:Nat) (l:List Tx) (T:List Nd):Prop:=∀ i,At L i l->Fo L lev (i+l.length)->Rd L (fun f=>dX L E f lev i) (11 - lev) i (i+l.length) T
variable (L E) in
def tf (lev:Nat) (l:List Tx) (T:List Nd):Prop:=∀ i,At L i l->Fo L (lev+1) (i+l.length)->∀ f,40 * (L.length - i)+(11 - lev) <= f->∃ ns f',bz ns=bz T/\40 * (L.length - (i+l.length))+1 <= f'/\dX L E f lev i=kM L E f' lev ns (i+l.length)
variable (L E) in
def dR (l:List Tx) (T:List Nd):Prop:=∀ i,At L i l->Fo L 2 (i+l.length)->Rd L (fun f=>bw L E f i) 10 i (i+l.length) T
variable (L E) in
def y4 (l:List Tx) (T:List Nd):Prop:=∀ i,At L i l->Hi L (i+l.length)->Rd L (fun f=>gJ L E f i) 11 i (i+l.length) T
variable (L E) in
def xu (l:List Tx) (T:List Nd):Prop:=∀ i,At L i l->Hi L (i+l.length)->Rd L (fun f=>iL L E f i) 12 i (i+l.length) T
variable {l:List Tx} {T:List Nd} {lev:Nat}
theorem W9 (h:ra L E l T):mG L E 9 l T:=by
 intro i hi hf f lx
 obtain ⟨f,rfl⟩:∃ g,f=g+1:=⟨f - 1,by omega⟩
 obtain ⟨ns,h1,h2⟩:=h i hi hf.2.1 f (by omega)
 exact ⟨ns,h1,by show dX L E (f+1) 9 i=_; rw [dX,if_pos rfl]; exact h2⟩
theorem YU {f lev i:Nat} {a:List Nd} (h:nD L lev i=none):kM L E (f+1) lev a i=.ok a i:=by rw [kM,h]
theorem Ge {f lev i:Nat} (h9:lev ≠ 9) (h4:lev ≠ 4):dX L E (f+1) lev i=(dX L E f (lev+1) i).bind fun a j=>kM L E f lev a j:=by rw [dX,if_neg h9,if_neg h4]
theorem Wf (h:mG L E (lev+1) l T) (h4:lev ≠ 4) (h9:lev <= 8):tf L E lev l T:=by
 intro i hi hf f lx
 obtain ⟨f,rfl⟩:∃ g,f=g+1:=⟨f - 1,by omega⟩
 obtain ⟨ns,h1,h2⟩:=h i hi hf f (by omega)
 have h2:dX L E f (lev+1) i=.ok ns (i+l.length):=h2
 exact ⟨ns,f,h1,by omega,by rw [Ge (by omega) h4,h2]; rfl⟩
theorem Jl (h:tf L E lev l T):mG L E lev l T:=by
 intro i hi hf f lx
 obtain ⟨ns,f',h1,h2,h3⟩:=h i hi (hf.up (by omega)) f lx
 obtain ⟨f',rfl⟩:∃ g,f'=g+1:=⟨f' - 1,by omega⟩
 exact ⟨ns,h1,by show dX L E f lev i=_; rw [h3,YU (hf.1 lev (bT _))]⟩
theorem op4 (h:mG L E 5 l T) (hd:Hd 5 l):mG L E 4 l T:=by
 intro i hi hf f lx
 obtain ⟨f,rfl⟩:∃ g,f=g+1:=⟨f - 1,by omega⟩
 obtain ⟨ns,h1,h2⟩:=h i hi (hf.up (by omega)) f (by omega)
 have h2:dX L E f 5 i=.ok ns (i+l.length):=h2
 obtain ⟨x,r,rfl,k1,k2,k3,k4⟩:=hd
 have hn:=mb hi k1 (k4 (by omega))
 refine ⟨ns,h1,?_⟩
 show dX L E (f+1) 4 i=_
 rw [dX,if_neg (by omega),if_pos rfl,if_neg (by simp [hn])]
 exact h2
theorem Ma {own:Nat} (h:mG L E own l T) (hd:Hd own l) (h9:own <= 9):∀ (n lev:Nat),own=lev+n->2 <= lev->mG L E lev l T
 | 0,lev,e,_=>by
    obtain rfl:own=lev:=by omega
    exact h
 | n+1,lev,e,h2=>by
   have ih:=Ma h hd h9 n (lev+1) (by omega) (by omega)
   by_cases h4:lev=4
   . subst h4; exact op4 ih (hd.low (by omega))
   . exact Jl (Wf ih h4 (by omega))
theorem Dt {own:Nat} (h:mG L E own l T) (hd:Hd own l) (h9:own <= 9) (h2:2 <= lev) (hl:lev <= own):mG L E lev l T:=Ma h hd h9 (own - lev) lev (by omega) h2
theorem We {own:Nat} (h:mG L E own l T) (hd:Hd own l) (h9:own <= 9) (h2:2 <= lev) (hl:lev < own) (h4:lev ≠ 4):tf L E lev l T:=Wf (Dt h hd h9 (by omega) (by omega)) h4 (by omega)
theorem Bb (h:mG L E 2 l T) (hd:Hd 2 l):dR L E l T:=by
 intro i hi hf f lx
 obtain ⟨f,rfl⟩:∃ g,f=g+1:=⟨f - 1,by omega⟩
 obtain ⟨ns,h1,h2⟩:=h i hi hf f (by omega)
 have h2:dX L E f 2 i=.ok ns (i+l.length):=h2
 obtain ⟨x,r,rfl,k1,k2,k3,k4⟩:=hd
 obtain ⟨k3,k5⟩:=k3 (bT _)
 simp only [Eb,cJ,List.not_mem_nil,or_false,not_or] at k3
 obtain ⟨n1,n2,n3,n4,n5,n6⟩:=k3
 refine ⟨ns,h1,?_⟩
 show bw L E (f+1) i=_
 rw [bw]
 simp only [mb hi k1 n1,mb hi k1 n2,mb hi k1 n3,mb hi k1 n4,mb hi k1 n5,mb hi k1 n6,bQ,if_false]
 rw [if_neg ?_]
 . exact h2
 rintro ⟨e1,e2⟩
 rw [AG hi] at e1
 have e1:x.1=1:=by simpa using e1
 cases r with
 | nil =>
   have:=hf.2.2
   simp only [fm,ko] at this
   rw [this] at e2; cases e2
 | cons y r =>
   have hy:=k5 e1 y r rfl
   have h':=hi.tail
   rw [dU h',hy] at e2
   cases e2
theorem y1 (h:dR L E l T):y4 L E l T:=by
 intro i hi hf f lx
 obtain ⟨f,rfl⟩:∃ g,f=g+1:=⟨f - 1,by omega⟩
 obtain ⟨ns,h1,h2⟩:=h i hi hf.1 f (by omega)
 have h2:bw L E f i=.ok ns (i+l.length):=h2
 refine ⟨ns,h1,?_⟩
 show gJ L E (f+1) i=_
 rw [gJ,h2]
 show mR L E f _ ns 1 (i+l.length)=_
 obtain ⟨f,rfl⟩:∃ g,f=g+1:=⟨f - 1,by omega⟩
 rw [mR,if_neg hf.2,if_pos rfl]
theorem aaL {i:Nat} {w:aG} (h:At L i (l++[az w])):At L (i+l.length) (az w::[]):=h.app.2
theorem xz (h:y4 L E l T):ra L E (az cB::l++[az cg]) T:=by
 intro i hi hf f lx
 have hlen:i+(az cB::l++[az cg]).length=i+1+l.length+1:=by simp; omega
 have hle:i+(az cB::l++[az cg]).length <= L.length:=hi.le'
 rw [hlen] at hle
 obtain ⟨f,rfl⟩:∃ g,f=g+1:=⟨f - 1,by omega⟩
 have h1:At L (i+1) (l++[az cg]):=hi.tail
 have he:=aaL h1
 obtain ⟨ns,h2,h3⟩:=h (i+1) h1.app.1 (uj (by decide) (by decide) he) f (by omega)
 have h3:gJ L E f (i+1)=.ok ns (i+1+l.length):=h3
 have hw:∀ v,bf L i v=(((az cB).1 == 3 || (az cB).1 == 4) && (az cB).2 == v):=fun v=>dU hi
 refine ⟨ns,h2,?_⟩
 show fY L E (f+1) i=_
 rw [fY]
 have c1:bf L i dy=false:=hw _
 have c2:bf L i dB=false:=hw _
 have c3:bf L i fB=false:=hw _
 have c4:bf L i gK=false:=hw _
 have c5:bf L i jS=false:=hw _
 have c6:bf L i lZ=false:=hw _
 have c7:bf L i cB=true:=hw _
 simp only [c1,c2,c3,c4,c5,c6,c7,bQ,if_false,if_true]
 rw [h3]
 show (bI L cg (i+1+l.length)).bind _=_
 rw [di he,hlen]; rfl
structure Good (L:List Tk) (E:Nat) (k:Int) (l:List Tx) (T:List Nd):Prop where
 term:y4 L E l T
 first:k ≠ 9->dR L E l T
 op:2 <= bJ k->mG L E (bJ k) l T
 ch:bJ k=2\/bJ k=3\/bJ k=6\/bJ k=7\/bJ k=8->tf L E (bJ k) l T
 hd:Hd (bJ k) l
theorem AI (k:Int):bJ k <= 9:=by
 unfold bJ; repeat' split
 all_goals omega
section
variable {k:Int} (g:Good L E k l T)
include g
theorem Good.MD {least:Nat}:Hd least (dL k least l):=by
 unfold dL
 split
 . exact g.hd.low ‹_›
 . exact Hd.par
theorem Good.ME {least:Nat} (h2:2 <= lev) (hl:lev <= least) (h9:least <= 9):mG L E lev (dL k least l) T:=by
 unfold dL
 split
 . rename_i h
   exact Dt (g.op (by omega)) g.hd (AI k) h2 (by omega)
 . exact Dt (W9 (xz g.term)) Hd.par (bT _) h2 (by omega)
theorem Good.aaQ (h:lev=2\/lev=3\/lev=6\/lev=7\/lev=8):tf L E lev (dL k lev l) T:=by
 unfold dL
 split
 . rename_i h'
   by_cases e:lev=bJ k
   . subst e; exact g.ch h
   . exact We (g.op (by omega)) g.hd (AI k) (by omega) (by omega) (by omega)
 . exact We (W9 (xz g.term)) Hd.par (bT _) (by omega) (by omega) (by omega)
theorem Good.jz:dR L E (dL k 1 l) T:=by
 unfold dL
 split
 . rename_i h
   exact g.first fun e=>by subst e; exact absurd h (by decide)
 . exact Bb (Dt (W9 (xz g.term)) Hd.par (bT _) (by omega) (by omega)) (Hd.par)
end
theorem AD {k:Int} (h2:2 <= bJ k) (h:mG L E (bJ k) l T) (hd:Hd (bJ k) l) (hc:bJ k=2\/bJ k=3\/bJ k=6\/bJ k=7\/bJ k=8->tf L E (bJ k) l T):Good L E k l T :=
 have h1:dR L E l T:=Bb (Dt h hd (AI k) (bT _) h2) (hd.low h2)
 ⟨y1 h1,fun _=>h1,fun _=>h,hc,hd⟩
theorem Lg {k:Int} (h2:bJ k=2\/bJ k=3\/bJ k=6\/bJ k=7\/bJ k=8) (h:tf L E (bJ k) l T) (hd:Hd (bJ k) l):Good L E k l T:=AD (by omega) (Jl h) hd fun _=>h
theorem mr {k:Int} (h9:bJ k=9) (h:ra L E l T) (hd:Hd 9 l):Good L E k l T:=AD (by omega) (h9 ▸ W9 h) (h9 ▸ hd) (by omega)
theorem n7 {k:Int} (h1:bJ k=1) (h:dR L E l T) (hd:Hd 1 l):Good L E k l T:=⟨y1 h,fun _=>h,by omega,by omega,h1 ▸ hd⟩
end
end Go.Rip
namespace Go.Rip
theorem Gb {α:Type} {x:α} {a b:Nat} (h:a=b):(PR.ok x a:PR α)=.ok x b:=by rw [h]
@[simp] theorem aT {α β:Type} {a:α} {i:Nat} {f:α->Nat->PR β}:(PR.ok a i).bind f=f a i:=rfl
section
variable {L:List Tk} {E:Nat} {l l0 l1 l2 r:List Tx} {T T0 T1 T2:List Nd} {i f:Nat} {w:aG} {a:Int}
theorem dR.go (g:dR L E l T) (h:At L i (l++az w::r)) (hw:w ∈ stops) (hf:40 * (L.length - i)+10 <= f):∃ ns,bz ns=bz T/\bw L E f i=.ok ns (i+l.length)/\At L (i+l.length) (az w::r):=by
 obtain ⟨ns,h1,h2⟩:=g i h.app.1 (wC hw h.app.2) f hf
 exact ⟨ns,h1,h2,h.app.2⟩
theorem At.lt {x:Tx} (h:At L i (x::l)):i+1 <= L.length:=by
 have:=h.le'
 simp at this; omega
theorem Uh (g0:dR L E l0 T0) (g1:dR L E l1 T1) (g2:dR L E l2 T2):dR L E (az ox::(l0++az nP::(l1++az eG::l2))) (node 10 [] 0 0 a (T0++T1++T2)):=by
 intro i hi hf f lx
 have hl:=hi.lt
 obtain ⟨f,rfl⟩:∃ g,f=g+1:=⟨f - 1,by omega⟩
 obtain ⟨n0,b0,p0,q0⟩:=g0.go hi.tail (w:=nP) (f:=f) (by decide) (by omega)
 have qP:=q0.lt
 obtain ⟨n1,b1,p1,q1⟩:=g1.go q0.tail (w:=eG) (f:=f) (by decide) (by omega)
 have Ik:=q1.lt
 have hj:i+(az ox::(l0++az nP::(l1++az eG::l2))).length=i+1+l0.length+1+l1.length+1+l2.length:=by simp; omega
 rw [hj] at hf ⊢
 obtain ⟨n2,b2,p2⟩:=g2 _ q1.tail hf f (by omega)
 have p2:bw L E f _=.ok n2 _:=p2
 refine ⟨node 10 [] 0 0 (dc L E i) (n0++n1++n2),eS (gN (gN b0 b1) b2),?_⟩
 show bw L E (f+1) i=_
 rw [bw,if_pos (fx hi),p0,aT,di q0,aT,p1,aT,di q1,aT,p2,aT]
theorem Km (g0:dR L E l0 T0) (g1:dR L E l1 T1):dR L E (az fX::(l0++az rP::l1)) (node 11 [] 0 0 a (T0++T1)):=by
 intro i hi hf f lx
 have hl:=hi.lt
 obtain ⟨f,rfl⟩:∃ g,f=g+1:=⟨f - 1,by omega⟩
 obtain ⟨n0,b0,p0,q0⟩:=g0.go hi.tail (w:=rP) (f:=f) (by decide) (by omega)
 have qP:=q0.lt
 have hj:i+(az fX::(l0++az rP::l1)).length=i+1+l0.length+1+l1.length:=by simp; omega
 rw [hj] at hf ⊢
 obtain ⟨n1,b1,p1⟩:=g1 _ q0.tail hf f (by omega)
 have p1:bw L E f _=.ok n1 _:=p1
 have hw:∀ v,bf L i v=(((az fX).1 == 3 || (az fX).1 == 4) && (az fX).2 == v):=fun v=>dU hi
 have c1:bf L i ox=false:=hw _
 refine ⟨node 11 [] 0 0 (dc L E i) (n0++n1),eS (gN b0 b1),?_⟩
 show bw L E (f+1) i=_
 rw [bw,if_neg (by simp [c1]),if_pos (fx hi),p0,aT,di q0,aT,p1,aT]
theorem HS (g0:dR L E l0 T0) (g1:dR L E l1 T1):dR L E (az gH::(l0++az eG::l1)) (node 15 [] 0 0 a (T0++T1)):=by
 intro i hi hf f lx
 have hl:=hi.lt
 obtain ⟨f,rfl⟩:∃ g,f=g+1:=⟨f - 1,by omega⟩
 obtain ⟨n0,b0,p0,q0⟩:=g0.go hi.tail (w:=eG) (f:=f) (by decide) (by omega)
 have qP:=q0.lt
 have hj:i+(az gH::(l0++az eG::l1)).length=i+1+l0.length+1+l1.length:=by simp; omega
 rw [hj] at hf ⊢
 obtain ⟨n1,b1,p1⟩:=g1 _ q0.tail hf f (by omega)
 have p1:bw L E f _=.ok n1 _:=p1
 have hw:∀ v,bf L i v=(((az gH).1 == 3 || (az gH).1 == 4) && (az gH).2 == v):=fun v=>dU hi
 have c1:bf L i ox=false:=hw _
 have c2:bf L i fX=false:=hw _
 have c3:bf L i lh=false:=hw _
 have c4:bf L i il=false:=hw _
 refine ⟨node 15 [] 0 0 (dc L E i) (n0++n1),eS (gN b0 b1),?_⟩
 show bw L E (f+1) i=_
 rw [bw,if_neg (by simp [c1]),if_neg (by simp [c2]),if_neg (by simp [c3]),if_neg (by simp [c4]),if_pos (fx hi),p0,aT,di q0,aT,p1,aT]
theorem Kl {x:aG} (g0:dR L E l0 T0) (g1:dR L E l1 T1):dR L E (az il::eC x::az jJ::(l0++az eG::l1)) (node 13 x 0 0 a (T0++T1)):=by
 intro i hi hf f lx
 have hl:=hi.lt
 obtain ⟨f,rfl⟩:∃ g,f=g+1:=⟨f - 1,by omega⟩
 have h1:=hi.tail
 have h2:=h1.tail
 have:=h1.lt
 have:=h2.lt
 obtain ⟨n0,b0,p0,q0⟩:=g0.go h2.tail (w:=eG) (f:=f) (by decide) (by omega)
 have qP:=q0.lt
 have hj:i+(az il::eC x::az jJ::(l0++az eG::l1)).length=i+1+1+1+l0.length+1+l1.length:=by simp; omega
 rw [hj] at hf ⊢
 obtain ⟨n1,b1,p1⟩:=g1 _ q0.tail hf f (by omega)
 have p1:bw L E f _=.ok n1 _:=p1
 have hw:∀ v,bf L i v=(((az il).1 == 3 || (az il).1 == 4) && (az il).2 == v):=fun v=>dU hi
 have c1:bf L i ox=false:=hw _
 have c2:bf L i fX=false:=hw _
 have c3:bf L i lh=false:=hw _
 refine ⟨node 13 x 0 0 (dc L E i) (n0++n1),eS (gN b0 b1),?_⟩
 show bw L E (f+1) i=_
 rw [bw,if_neg (by simp [c1]),if_neg (by simp [c2]),if_neg (by simp [c3]),if_pos (fx hi),kK h1,aT,di h2,aT,p0,aT,di q0,aT,p1,aT]
theorem Pe {x:aG} {n m:Int} (hn:dH n=true) (hm:dH m=true) (g0:dR L E l0 T0):dR L E (az lh::eC x::az cW::iI n::az bL::iI m::az jJ::l0) (node 12 x n m a T0):=by
 intro i hi hf f lx
 have hl:=hi.lt
 obtain ⟨f,rfl⟩:∃ g,f=g+1:=⟨f - 1,by omega⟩
 have h1:=hi.tail
 have h2:=h1.tail
 have h3:=h2.tail
 have h4:=h3.tail
 have h5:=h4.tail
 have h6:=h5.tail
 have:=h6.lt
 have hj:i+(az lh::eC x::az cW::iI n::az bL::iI m::az jJ::l0).length=i+1+1+1+1+1+1+1+l0.length:=by simp; omega
 rw [hj] at hf ⊢
 obtain ⟨n1,b1,p1⟩:=g0 _ h6.tail hf f (by omega)
 have p1:bw L E f _=.ok n1 _:=p1
 have hw:∀ v,bf L i v=(((az lh).1 == 3 || (az lh).1 == 4) && (az lh).2 == v):=fun v=>dU hi
 have c1:bf L i ox=false:=hw _
 have c2:bf L i fX=false:=hw _
 refine ⟨node 12 x n m (dc L E i) n1,eS b1,?_⟩
 show bw L E (f+1) i=_
 rw [bw,if_neg (by simp [c1]),if_neg (by simp [c2]),if_pos (fx hi),kK h1,aT,di h2,aT,qA hn h3,aT,di h4,aT,qA hm h5,aT,di h6,aT,p1,aT]
theorem HT {x:aG} {n:Int} (hn:dH n=true) (g0:dR L E l0 T0):dR L E (az ig::eC x::az bL::iI n::az jJ::l0) (node 14 x n 0 a T0):=by
 intro i hi hf f lx
 have hl:=hi.lt
 obtain ⟨f,rfl⟩:∃ g,f=g+1:=⟨f - 1,by omega⟩
 have h1:=hi.tail
 have h2:=h1.tail
 have h3:=h2.tail
 have h4:=h3.tail
 have:=h4.lt
 have hj:i+(az ig::eC x::az bL::iI n::az jJ::l0).length=i+1+1+1+1+1+l0.length:=by simp; omega
 rw [hj] at hf ⊢
 obtain ⟨n1,b1,p1⟩:=g0 _ h4.tail hf f (by omega)
 have p1:bw L E f _=.ok n1 _:=p1
 have hw:∀ v,bf L i v=(((az ig).1 == 3 || (az ig).1 == 4) && (az ig).2 == v):=fun v=>dU hi
 have c1:bf L i ox=false:=hw _
 have c2:bf L i fX=false:=hw _
 have c3:bf L i lh=false:=hw _
 have c4:bf L i il=false:=hw _
 have c5:bf L i gH=false:=hw _
 refine ⟨node 14 x n 0 (dc L E i) n1,eS b1,?_⟩
 show bw L E (f+1) i=_
 rw [bw,if_neg (by simp [c1]),if_neg (by simp [c2]),if_neg (by simp [c3]),if_neg (by simp [c4]),if_neg (by simp [c5]),if_pos (fx hi),kK h1,aT,di h2,aT,qA hn h3,aT,di h4,aT,p1,aT]
theorem G4 {x v:aG} (h:At L i (eC x::l)):bf L i v=false:=by rw [dU h]; rfl
theorem ad7 {n:Int} {v:aG} (h:At L i (iI n::l)):bf L i v=false:=by rw [dU h]; rfl
theorem Pf {x:aG} (g0:dR L E l0 T0):dR L E (eC x::az bL::l0) (node 16 x 0 0 a T0):=by
 intro i hi hf f lx
 have hl:=hi.lt
 obtain ⟨f,rfl⟩:∃ g,f=g+1:=⟨f - 1,by omega⟩
 have h1:=hi.tail
 have:=h1.lt
 have hj:i+(eC x::az bL::l0).length=i+1+1+l0.length:=by simp; omega
 rw [hj] at hf ⊢
 obtain ⟨n1,b1,p1⟩:=g0 _ h1.tail hf f (by omega)
 have p1:bw L E f _=.ok n1 _:=p1
 refine ⟨node 16 x 0 0 (dc L E i) n1,eS b1,?_⟩
 show bw L E (f+1) i=_
 have hk:qy L i 1=true:=by rw [AG hi]; rfl
 rw [bw]
 simp only [G4 hi,bQ,if_false]
 rw [if_pos ⟨hk,fx h1⟩,kK hi,aT,di h1,aT,p1,aT]
theorem aaT {k:Int} (hk:k ∈ nU) (h5:bJ k ≠ 5) (h8:bJ k ≠ 8) (g0:tf L E (bJ k) l0 T0) (g1:mG L E (bJ k+1) l1 T1) (h2:2 <= bJ k):tf L E (bJ k) (l0++az (jP k)::l1) (node k [] 0 0 a (T0++T1)):=by
 intro i hi hf f lx
 obtain ⟨q0,q1⟩:=hi.app
 obtain ⟨o1,o2⟩:=NW hk q1
 have:=q1.lt
 obtain ⟨n0,f',b0,kD,p0⟩:=g0 i q0 o2 f lx
 obtain ⟨f',rfl⟩:∃ g,f'=g+1:=⟨f' - 1,by omega⟩
 have hj:i+(l0++az (jP k)::l1).length=i+l0.length+1+l1.length:=by simp; omega
 rw [hj] at hf ⊢
 obtain ⟨n1,b1,p1⟩:=g1 _ q1.tail hf f' (by omega)
 have p1:dX L E f' _ _=.ok n1 _:=p1
 refine ⟨node k [] 0 0 (dc L E (i+l0.length)) (n0++n1),f',eS (gN b0 b1),by omega,?_⟩
 rw [p0,kM,o1]
 simp only [if_neg h8,if_neg h5]
 rw [p1,aT]
theorem YR {k:Int} (hk:k ∈ nU) (h5:bJ k=5) (g0:mG L E 6 l0 T0) (g1:mG L E 6 l1 T1):mG L E 5 (l0++az (jP k)::l1) (node k [] 0 0 a (T0++T1)):=by
 intro i hi hf f lx
 obtain ⟨q0,q1⟩:=hi.app
 obtain ⟨o1,o2⟩:=NW hk q1
 rw [h5] at o1 o2
 have:=q1.lt
 obtain ⟨f,rfl⟩:∃ g,f=g+1:=⟨f - 1,by omega⟩
 obtain ⟨n0,b0,p0⟩:=g0 i q0 o2 f (by omega)
 have p0:dX L E f 6 i=.ok n0 _:=p0
 have hj:i+(l0++az (jP k)::l1).length=i+l0.length+1+l1.length:=by simp; omega
 rw [hj] at hf ⊢
 obtain ⟨f,rfl⟩:∃ g,f=g+1:=⟨f - 1,by omega⟩
 obtain ⟨n1,b1,p1⟩:=g1 _ q1.tail (hf.up (by omega)) f (by omega)
 have p1:dX L E f 6 _=.ok n1 _:=p1
 refine ⟨node k [] 0 0 (dc L E (i+l0.length)) (n0++n1),eS (gN b0 b1),?_⟩
 show dX L E (f+1+1) 5 i=_
 rw [Ge (by omega) (by omega),p0,aT,kM,o1]
 simp only [show ¬ ((5:Nat)=8) by omega,if_false,if_true]
 rw [p1,aT]
theorem ady {n:Int} (hn:dH n=true) (g0:tf L E 8 l0 T0):tf L E 8 (l0++az tu::iI n::[]) (node 25 [] n 0 a T0):=by
 intro i hi hf f lx
 obtain ⟨q0,q1⟩:=hi.app
 obtain ⟨o1,o2⟩:=NW (k:=25) (by decide) q1
 have:=q1.lt
 have:=q1.tail.lt
 obtain ⟨n0,f',b0,kD,p0⟩:=g0 i q0 o2 f lx
 obtain ⟨f',rfl⟩:∃ g,f'=g+1:=⟨f' - 1,by omega⟩
 have hj:i+(l0++az tu::iI n::[]).length=i+l0.length+1+1:=by simp; omega
 rw [hj] at hf ⊢
 refine ⟨node 25 [] n 0 (dc L E (i+l0.length)) n0,f',eS b0,by omega,?_⟩
 have o1:nD L 8 (i+l0.length)=some 25:=o1
 rw [p0,kM,o1]
 simp only [if_true]
 rw [qA hn q1.tail,aT]
theorem abK (g0:mG L E 4 l0 T0):mG L E 4 (az pK::l0) (node 19 [] 0 0 a T0):=by
 intro i hi hf f lx
 have:=hi.lt
 obtain ⟨f,rfl⟩:∃ g,f=g+1:=⟨f - 1,by omega⟩
 have hj:i+(az pK::l0).length=i+1+l0.length:=by simp; omega
 rw [hj] at hf ⊢
 obtain ⟨n0,b0,p0⟩:=g0 _ hi.tail hf f (by omega)
 have p0:dX L E f 4 _=.ok n0 _:=p0
 refine ⟨node 19 [] 0 0 (dc L E i) n0,eS b0,?_⟩
 show dX L E (f+1) 4 i=_
 rw [dX,if_neg (by omega),if_pos rfl,if_pos (fx hi),p0,aT]
theorem TL {n:Int} (hn:dH n=true):ra L E [iI n] (node 26 [] n 0 a []):=by
 intro i hi hf f lx
 have:=hi.lt
 obtain ⟨f,rfl⟩:∃ g,f=g+1:=⟨f - 1,by omega⟩
 refine ⟨node 26 [] n 0 (dc L E i) [],eS rfl,?_⟩
 show fY L E (f+1) i=_
 have hk:qy L i 2=true:=by rw [AG hi]; rfl
 rw [fY]
 simp only [ad7 hi,bQ,if_false,hk,if_true]
 rw [qA hn hi,aT]; rfl
theorem uY {k:Int} (h:(k,w) ∈ [((27:Int),dy),(28,dB),(29,fB),(30,gK)]):ra L E [az w] (node k [] 0 0 a []):=by
 intro i hi hf f lx
 have:=hi.lt
 obtain ⟨f,rfl⟩:∃ g,f=g+1:=⟨f - 1,by omega⟩
 refine ⟨node k [] 0 0 (dc L E i) [],eS rfl,?_⟩
 show fY L E (f+1) i=_
 have hw:∀ v,bf L i v=(((az w).1 == 3 || (az w).1 == 4) && (az w).2 == v):=fun v=>dU hi
 rw [fY]
 simp only [hw]
 simp only [cJ,List.not_mem_nil,or_false,gL] at h
 rcases h with ⟨rfl,rfl⟩ | ⟨rfl,rfl⟩ | ⟨rfl,rfl⟩ | ⟨rfl,rfl⟩ <;> rfl
theorem OE {x:aG}:ra L E [az jS,eC x] (node 31 x 0 0 a []):=by
 intro i hi hf f lx
 have:=hi.lt
 obtain ⟨f,rfl⟩:∃ g,f=g+1:=⟨f - 1,by omega⟩
 refine ⟨node 31 x 0 0 (dc L E i) [],eS rfl,?_⟩
 show fY L E (f+1) i=_
 have hw:∀ v,bf L i v=(((az jS).1 == 3 || (az jS).1 == 4) && (az jS).2 == v):=fun v=>dU hi
 have c1:bf L i dy=false:=hw _
 have c2:bf L i dB=false:=hw _
 have c3:bf L i fB=false:=hw _
 have c4:bf L i gK=false:=hw _
 rw [fY]
 simp only [c1,c2,c3,c4,bQ,if_false]
 rw [if_pos (fx hi),kK hi.tail,aT]; rfl
theorem TK {x:aG}:ra L E [az lZ,eC x] (node 32 x 0 0 a []):=by
 intro i hi hf f lx
 have:=hi.lt
 obtain ⟨f,rfl⟩:∃ g,f=g+1:=⟨f - 1,by omega⟩
 refine ⟨node 32 x 0 0 (dc L E i) [],eS rfl,?_⟩
 show fY L E (f+1) i=_
 have hw:∀ v,bf L i v=(((az lZ).1 == 3 || (az lZ).1 == 4) && (az lZ).2 == v):=fun v=>dU hi
 have c1:bf L i dy=false:=hw _
 have c2:bf L i dB=false:=hw _
 have c3:bf L i fB=false:=hw _
 have c4:bf L i gK=false:=hw _
 have c5:bf L i jS=false:=hw _
 rw [fY]
 simp only [c1,c2,c3,c4,c5,bQ,if_false]
 rw [if_pos (fx hi),kK hi.tail,aT]; rfl
theorem W6 {x:aG} (h:At L i (eC x::l)):qy L i 2=false:=by rw [AG h]; rfl
theorem OF {x:aG}:ra L E [eC x] (node 33 x 0 0 a []):=by
 intro i hi hf f lx
 have:=hi.lt
 obtain ⟨f,rfl⟩:∃ g,f=g+1:=⟨f - 1,by omega⟩
 refine ⟨node 33 x 0 0 (dc L E i) [],eS rfl,?_⟩
 have hf:bf L (i+1) cB=false:=hf
 show fY L E (f+1) i=_
 rw [fY]
 simp only [G4 hi,W6 hi,bQ,if_false]
 rw [kK hi,aT,if_neg (by simp [hf])]; rfl
end
end Go.Rip
namespace Go.Rip
theorem nV (w:aG):∀ (l:List Tx) (ls:List (List Tx)),cX w (l::ls)=l++ls.flatMap fun m=>az w::m
 | l,[]=>by simp [cX]
 | l,m::ls=>by rw [cX,nV w m ls]; simp
abbrev Pt:=List Tx × List Nd
def Pt.sep (w:aG) (P:List Pt):List Tx:=P.flatMap fun p=>az w::p.1
def Pt.all (P:List Pt):List Nd:=P.flatMap fun p=>p.2
theorem Pt.DJ (w:aG) (p:Pt) (P:List Pt):cX w ((p::P).map Prod.fst)=p.1++Pt.sep w P:=by
 rw [eh,nV]
 unfold Pt.sep
 rw [List.flatMap_map]
section
variable {L:List Tk} {E:Nat} {l l0 l1 l2 r:List Tx} {T T0 T1 T2:List Nd} {w:aG} {a:Int}
theorem Good.arg {k:Int} (g:Good L E k l T):xu L E l T:=by
 intro i hi hf f lx
 obtain ⟨f,rfl⟩:∃ g,f=g+1:=⟨f - 1,by omega⟩
 obtain ⟨ns,h1,h2⟩:=g.term i hi hf f (by omega)
 have h2:gJ L E f i=.ok ns (i+l.length):=h2
 obtain ⟨x,r,rfl,k1,k2,_⟩:=g.hd
 simp only [BW,cJ,List.not_mem_nil,or_false,not_or] at k2
 refine ⟨ns,h1,?_⟩
 show iL L E (f+1) i=_
 rw [iL,if_neg (by simp [mb hi k1 k2.1]),if_neg (by simp [mb hi k1 k2.2.1])]
 exact h2
theorem Gi:∀ (P:List Pt) (i f:Nat) (acc:List Nd),(∀ p ∈ P,xu L E p.1 p.2)->At L i (Pt.sep cw P++az cg::r)->40 * (L.length - i)+1 <= f->∃ ns,bz ns=bz (Pt.all P)/\j9 L E f acc i=.ok (acc++ns) (i+(Pt.sep cw P).length)
 | [],i,f,acc,hP,hi,hf=>by
   obtain ⟨f,rfl⟩:∃ g,f=g+1:=⟨f - 1,by omega⟩
   have hi:At L i (az cg::r):=hi
   refine ⟨[],rfl,?_⟩
   have hc:bf L i cw=false:=by rw [dU hi]; rfl
   rw [j9,if_neg (by simp [hc]),gD]; rfl
 | p::P,i,f,acc,hP,hi,hf=>by
   obtain ⟨f,rfl⟩:∃ g,f=g+1:=⟨f - 1,by omega⟩
   have hi:At L i (az cw::(p.1++(Pt.sep cw P++az cg::r))):=by simpa [Pt.sep] using hi
   have hl:=hi.lt
   have h1:=hi.tail
   have h2:=h1.app.2
   have ey:Hi L (i+1+p.1.length):=by
    cases P with
    | nil=>exact uj (w:=cg) (by decide) (by decide) h2
    | cons q P=>exact uj (w:=cw) (by decide) (by decide) h2
   obtain ⟨n0,b0,p0⟩:=hP p (by simp) _ h1.app.1 ey f (by omega)
   have p0:iL L E f _=.ok n0 _:=p0
   obtain ⟨ns,b1,p1⟩:=Gi P _ f (acc++n0) (fun q hq=>hP q (by simp [hq])) h2 (by omega)
   refine ⟨n0++ns,by rw [Pt.all,List.flatMap_cons]; exact gN b0 b1,?_⟩
   rw [j9,if_pos (fx hi),p0,aT,p1,gi]
   exact Gb (by simp [Pt.sep]; omega)
theorem OD {x:aG} {p:Pt} {P:List Pt} (hP:∀ q ∈ p::P,xu L E q.1 q.2):ra L E (eC x::az cB::cX cw ((p::P).map Prod.fst)++[az cg]) (node 34 x 0 0 a (Pt.all (p::P))):=by
 intro i hi hf f lx
 obtain ⟨f,rfl⟩:∃ g,f=g+1:=⟨f - 1,by omega⟩
 rw [Pt.DJ] at hi ⊢
 have hi:At L i (eC x::az cB::(p.1++(Pt.sep cw P++az cg::[]))):=by simpa using hi
 have hl:=hi.lt
 have h1:=hi.tail
 have:=h1.lt
 have h2:=h1.tail.app.2
 have ey:Hi L (i+1+1+p.1.length):=by
  cases P with
  | nil=>exact uj (w:=cg) (by decide) (by decide) h2
  | cons q P=>exact uj (w:=cw) (by decide) (by decide) h2
 obtain ⟨n0,b0,p0⟩:=hP p (by simp) _ h1.tail.app.1 ey f (by omega)
 have p0:iL L E f _=.ok n0 _:=p0
 obtain ⟨ns,b1,p1⟩:=Gi P _ f n0 (fun q hq=>hP q (by simp [hq])) h2 (by omega)
 refine ⟨node 34 x 0 0 (dc L E i) (n0++ns),eS (by rw [Pt.all,List.flatMap_cons]; exact gN b0 b1),?_⟩
 show fY L E (f+1) i=_
 rw [fY]
 simp only [G4 hi,W6 hi,bQ,if_false]
 rw [kK hi,aT,if_pos (fx h1),p0,aT,p1,aT,di h2.app.2,aT]
 exact Gb (by simp; omega)
theorem WW {i:Nat} {lev:Nat} (hd:Hd lev l) (h:At L i (l++r)):i+1 <= L.length/\tn L i=false:=by
 obtain ⟨x,r',rfl,k1,k2,_⟩:=hd
 simp only [BW,cJ,List.not_mem_nil,or_false,not_or] at k2
 have h:At L i (x::(r'++r)):=h
 refine ⟨h.lt,?_⟩
 unfold tn
 rw [mb h k1 k2.2.2.1,mb h k1 k2.2.2.2.1,mb h k1 k2.2.2.2.2]; rfl
theorem QV:∀ (P:List Pt) (i f:Nat) (at_:Int) (acc:List Nd) (many:Nat),(∀ p ∈ P,dR L E p.1 p.2/\Hd 0 p.1)->At L i (Pt.sep cn P)->Hi L (i+(Pt.sep cn P).length)->40 * (L.length - i)+1 <= f->∃ ns,bz ns=bz (Pt.all P)/\mR L E f at_ acc many i=.ok (if many+P.length=1 then acc++ns else node 9 [] 0 0 at_ (acc++ns)) (i+(Pt.sep cn P).length)
 | [],i,f,at_,acc,many,hP,hi,hf,lx=>by
   obtain ⟨f,rfl⟩:∃ g,f=g+1:=⟨f - 1,by omega⟩
   have hf:Hi L i:=hf
   refine ⟨[],rfl,?_⟩
   rw [mR,if_neg hf.2]
   simp only [gD,ko,Nat.add_zero]; rfl
 | p::P,i,f,at_,acc,many,hP,hi,hf,lx=>by
   obtain ⟨f,rfl⟩:∃ g,f=g+1:=⟨f - 1,by omega⟩
   have hj:i+(Pt.sep cn (p::P)).length=i+1+p.1.length+(Pt.sep cn P).length:=by simp [Pt.sep]; omega
   rw [hj] at hf ⊢
   have hi:At L i (az cn::(p.1++Pt.sep cn P)):=by simpa [Pt.sep] using hi
   have hl:=hi.lt
   have h1:=hi.tail
   have h2:=h1.app.2
   obtain ⟨g1,g2⟩:=hP p (by simp)
   obtain ⟨k1,k2⟩:=WW g2 h1
   have ey:Fo L 2 (i+1+p.1.length):=by
    cases P with
    | nil=>exact hf.1
    | cons q P=>exact wC (w:=cn) (by decide) h2
   obtain ⟨n0,b0,p0⟩:=g1 _ h1.app.1 ey f (by omega)
   have p0:bw L E f _=.ok n0 _:=p0
   obtain ⟨ns,b1,p1⟩:=QV P _ f at_ (acc++n0) (many+1) (fun q hq=>hP q (by simp [hq])) h2 hf (by omega)
   refine ⟨n0++ns,by rw [Pt.all,List.flatMap_cons]; exact gN b0 b1,?_⟩
   rw [mR,if_pos ⟨fx hi,by omega,k2⟩,p0,aT,p1,gi,fm,show many+1+P.length=many+(P.length+1) by omega]
theorem VM {p q:Pt} {P:List Pt} (hP:∀ x ∈ p::q::P,dR L E x.1 x.2/\Hd 0 x.1):y4 L E (cX cn ((p::q::P).map Prod.fst)) (node 9 [] 0 0 a (Pt.all (p::q::P))):=by
 intro i hi hf f lx
 obtain ⟨f,rfl⟩:∃ g,f=g+1:=⟨f - 1,by omega⟩
 rw [Pt.DJ] at hi hf ⊢
 have hj:i+(p.1++Pt.sep cn (q::P)).length=i+p.1.length+(Pt.sep cn (q::P)).length:=by simp; omega
 rw [hj] at hf ⊢
 obtain ⟨g1,g2⟩:=hP p (by simp)
 obtain ⟨k1,k2⟩:=WW g2 hi
 have h2:=hi.app.2
 obtain ⟨n0,b0,p0⟩:=g1 _ hi.app.1 (wC (w:=cn) (by decide) (show At L _ (az cn::(q.1++Pt.sep cn P)) from by simpa [Pt.sep] using h2)) f (by omega)
 have p0:bw L E f _=.ok n0 _:=p0
 have hle:=hi.app.1.le (by omega)
 have oT:1 <= p.1.length:=by
  obtain ⟨x,r',e,_⟩:=g2
  rw [e]; simp
 obtain ⟨ns,b1,p1⟩:=QV (q::P) _ f (dc L E (i+p.1.length)) n0 1 (fun x hx=>hP x (by simp only [cJ] at hx ⊢; exact .inr hx)) h2 hf (by omega)
 refine ⟨node 9 [] 0 0 (dc L E (i+p.1.length)) (n0++ns),eS (by rw [Pt.all,List.flatMap_cons]; exact gN b0 b1),?_⟩
 show gJ L E (f+1) i=_
 rw [gJ,p0,aT,p1,if_neg (by simp)]
def j6 (L:List Tk) (one:Nat->PR (List Nd)) (l:List Tx) (T:List Nd):Prop:=∀ i,At L i l->∃ ns,bz ns=bz T/\one i=.ok ns (i+l.length)
theorem LS {one:Nat->PR (List Nd)}:∀ (P:List Pt) (i f:Nat) (acc:List Nd),(∀ p ∈ P,j6 L one p.1 p.2)->At L i (Pt.sep cw P++az cg::r)->L.length - i < f->∃ ns,bz ns=bz (Pt.all P)/\lV L one f acc i=.ok (acc++ns) (i+(Pt.sep cw P).length)
 | [],i,f,acc,hP,hi,hf=>by
   obtain ⟨f,rfl⟩:∃ g,f=g+1:=⟨f - 1,by omega⟩
   have hi:At L i (az cg::r):=hi
   refine ⟨[],rfl,?_⟩
   have hc:bf L i cw=false:=by rw [dU hi]; rfl
   rw [lV,if_neg (by simp [hc]),gD]; rfl
 | p::P,i,f,acc,hP,hi,hf=>by
   obtain ⟨f,rfl⟩:∃ g,f=g+1:=⟨f - 1,by omega⟩
   have hi:At L i (az cw::(p.1++(Pt.sep cw P++az cg::r))):=by simpa [Pt.sep] using hi
   have hl:=hi.lt
   have h1:=hi.tail
   have h2:=h1.app.2
   obtain ⟨n0,b0,p0⟩:=hP p (by simp) _ h1.app.1
   obtain ⟨ns,b1,p1⟩:=LS P _ f (acc++n0) (fun q hq=>hP q (by simp [hq])) h2 (by omega)
   refine ⟨n0++ns,by rw [Pt.all,List.flatMap_cons]; exact gN b0 b1,?_⟩
   rw [lV,if_pos (fx hi),p0,aT,p1,gi]
   exact Gb (by simp [Pt.sep]; omega)
theorem zV {one:Nat->PR (List Nd)} {p:Pt} {P:List Pt} {i f:Nat} (hP:∀ q ∈ p::P,j6 L one q.1 q.2) (hi:At L i (cX cw ((p::P).map Prod.fst)++az cg::r)) (hf:L.length - i < f):∃ ns,bz ns=bz (Pt.all (p::P))/\ju L one f i=.ok ns (i+(cX cw ((p::P).map Prod.fst)).length)/\At L (i+(cX cw ((p::P).map Prod.fst)).length) (az cg::r):=by
 refine (fun (h:_/\_)=>?_) hi.app
 rw [Pt.DJ] at hi h ⊢
 rw [gi] at hi
 obtain ⟨n0,b0,p0⟩:=hP p (by simp) _ hi.app.1
 obtain ⟨ns,b1,p1⟩:=LS P _ f n0 (fun q hq=>hP q (by simp [hq])) hi.app.2 (by omega)
 refine ⟨n0++ns,by rw [Pt.all,List.flatMap_cons]; exact gN b0 b1,?_,h.2⟩
 rw [ju,p0,aT,p1]
 exact Gb (by simp; omega)
def As (k n:Int):List Tx:=if k=6 then (if n=1 then [az pb] else if n=2 then [az kT] else [az gy,iI n]) else [az jR,iI n]
theorem KY {k n:Int} (hk:k=6\/k=7) (hn:dH n=true):j6 L (fun i=>fM L E i) (As k n) (node k [] n 0 a []):=by
 intro i hi
 refine ⟨node k [] n 0 (dc L E i) [],eS rfl,?_⟩
 show fM L E i=_
 unfold As at hi ⊢
 rcases hk with rfl | rfl
 . rw [if_pos rfl] at hi ⊢
   by_cases h1:n=1
   . subst h1
     rw [if_pos rfl] at hi ⊢
     unfold fM
     rw [if_pos (fx hi)]; rfl
   . rw [if_neg h1] at hi ⊢
     by_cases h2:n=2
     . subst h2
       rw [if_pos rfl] at hi ⊢
       have hw:∀ v,bf L i v=(((az kT).1 == 3 || (az kT).1 == 4) && (az kT).2 == v):=fun v=>dU hi
       have c1:bf L i pb=false:=hw _
       unfold fM
       rw [if_neg (by simp [c1]),if_pos (fx hi)]; rfl
     . rw [if_neg h2] at hi ⊢
       have hw:∀ v,bf L i v=(((az gy).1 == 3 || (az gy).1 == 4) && (az gy).2 == v):=fun v=>dU hi
       have c1:bf L i pb=false:=hw _
       have c2:bf L i kT=false:=hw _
       have c3:bf L i jR=false:=hw _
       unfold fM
       rw [if_neg (by simp [c1]),if_neg (by simp [c2]),if_neg (by simp [c3]),di hi,aT,qA hn hi.tail,aT]; rfl
 . rw [if_neg (by decide)] at hi ⊢
   have hw:∀ v,bf L i v=(((az jR).1 == 3 || (az jR).1 == 4) && (az jR).2 == v):=fun v=>dU hi
   have c1:bf L i pb=false:=hw _
   have c2:bf L i kT=false:=hw _
   unfold fM
   rw [if_neg (by simp [c1]),if_neg (by simp [c2]),if_pos (fx hi),qA hn hi.tail,aT]; rfl
theorem Qd {k n:Int} {f:Nat} (hk:k=6\/k=7) (hn:dH n=true):j6 L (fun i=>jh L E f i) (As k n) (node k [] n 0 a []):=by
 intro i hi
 obtain ⟨ns,h1,h2⟩:=KY (E:=E) (a:=a) hk hn i hi
 have h2:fM L E i=_:=h2
 refine ⟨ns,h1,?_⟩
 show jh L E f i=_
 have hc:bf L i cB=false:=by
  unfold As at hi
  rcases hk with rfl | rfl
  . rw [if_pos rfl] at hi
    split at hi
    . rw [dU hi]; rfl
    . split at hi
      . rw [dU hi]; rfl
      . rw [dU hi]; rfl
  . rw [if_neg (by decide)] at hi
    rw [dU hi]; rfl
 unfold jh
 rw [if_neg (by simp [hc])]
 exact h2
theorem Nz {p:Pt} {P:List Pt} {f:Nat} (hf:L.length < f) (hP:∀ q ∈ p::P,j6 L (fun i=>fM L E i) q.1 q.2) (g:j6 L (fun i=>fM L E i) l T):j6 L (fun i=>jh L E f i) (az cB::(cX cw ((p::P).map Prod.fst)++az cg::az fF::l)) (node 8 [] 0 0 a (Pt.all (p::P)++T)):=by
 intro i hi
 obtain ⟨n0,b0,p0,q0⟩:=zV (f:=f) hP hi.tail (by omega)
 obtain ⟨n1,b1,p1⟩:=g _ q0.tail.tail
 have p1:fM L E _=.ok n1 _:=p1
 refine ⟨node 8 [] 0 0 (dc L E i) (n0++n1),eS (gN b0 b1),?_⟩
 show jh L E f i=_
 unfold jh
 rw [if_pos (fx hi)]
 have p0:ju L (fM L E) f (i+1)=_:=p0
 rw [p0,aT,di q0,aT,di q0.tail,aT,p1,aT]
 exact Gb (by simp; omega)
theorem U9 {x:aG} {f:Nat} (g:j6 L (fun i=>jh L E f i) l T):j6 L (fun i=>jx L E f i) (eC x::az cW::l) (node 5 x 0 0 a T):=by
 intro i hi
 obtain ⟨n1,b1,p1⟩:=g _ hi.tail.tail
 have p1:jh L E f _=.ok n1 _:=p1
 refine ⟨node 5 x 0 0 (dc L E i) n1,eS b1,?_⟩
 show jx L E f i=_
 unfold jx
 rw [kK hi,aT,di hi.tail,aT,p1,aT]
 exact Gb (by simp; omega)
theorem X2 {x:aG}:j6 L (fun i=>kW L E i) [eC x] (node 37 x 0 0 a []):=by
 intro i hi
 refine ⟨node 37 x 0 0 (dc L E i) [],eS rfl,?_⟩
 show kW L E i=_
 unfold kW
 rw [kK hi,aT]; rfl
theorem aaI {p:Pt} {P:List Pt} (hP:∀ q ∈ p::P,j6 L (fun i=>kW L E i) q.1 q.2) (g:dR L E l T):xu L E (az qF::az cB::(cX cw ((p::P).map Prod.fst)++az cg::l)) (node 35 [] 0 0 a (Pt.all (p::P)++T)):=by
 intro i hi hf f lx
 have:=hi.lt
 have:=hi.tail.lt
 obtain ⟨f,rfl⟩:∃ g,f=g+1:=⟨f - 1,by omega⟩
 obtain ⟨n0,b0,p0,q0⟩:=zV (f:=L.length+1) hP hi.tail.tail (by omega)
 have:=q0.lt
 have hj:i+(az qF::az cB::(cX cw ((p::P).map Prod.fst)++az cg::l)).length=i+1+1+(cX cw ((p::P).map Prod.fst)).length+1+l.length:=by simp; omega
 rw [hj] at hf ⊢
 obtain ⟨n1,b1,p1⟩:=g _ q0.tail hf.1 f (by omega)
 have p1:bw L E f _=.ok n1 _:=p1
 have p0:ju L (kW L E) (L.length+1) (i+1+1)=_:=p0
 refine ⟨node 35 [] 0 0 (dc L E i) (n0++n1),eS (gN b0 b1),?_⟩
 show iL L E (f+1) i=_
 rw [iL,if_pos (fx hi),di hi.tail,aT,p0,aT,di q0,aT,p1,aT]
theorem Mx (g0:dR L E l0 T0) (g1:j6 L (fun i=>kW L E i) l1 T1) (g2:dR L E l2 T2):xu L E (az nf::az vI::(l0++az cn::az vJ::(l1++az tU::(l2++[az qq])))) (node 36 [] 0 0 a (T0++T1++T2)):=by
 intro i hi hf f lx
 have:=hi.lt
 have:=hi.tail.lt
 obtain ⟨f,rfl⟩:∃ g,f=g+1:=⟨f - 1,by omega⟩
 obtain ⟨n0,b0,p0,q0⟩:=g0.go hi.tail.tail (w:=cn) (f:=f) (by decide) (by omega)
 have:=q0.lt
 have:=q0.tail.lt
 have h1:=q0.tail.tail
 obtain ⟨n1,b1,p1⟩:=g1 _ h1.app.1
 have p1:kW L E _=.ok n1 _:=p1
 have h2:=h1.app.2
 have:=h2.lt
 obtain ⟨n2,b2,p2,q2⟩:=g2.go h2.tail (w:=qq) (f:=f) (by decide) (by omega)
 have hw:∀ v,bf L i v=(((az nf).1 == 3 || (az nf).1 == 4) && (az nf).2 == v):=fun v=>dU hi
 have c1:bf L i qF=false:=hw _
 refine ⟨node 36 [] 0 0 (dc L E i) (n0++n1++n2),eS (gN (gN b0 b1) b2),?_⟩
 show iL L E (f+1) i=_
 rw [iL,if_neg (by simp [c1]),if_pos (fx hi),di hi.tail,aT,p0,aT,di q0,aT,di q0.tail,aT,p1,aT,di h2,aT,p2,aT,di q2,aT]
 exact Gb (by simp; omega)
def Hj (L:List Tk) (E:Nat) (l:List Tx) (T:List Nd):Prop:=∀ i,At L i l->(i+l.length=L.length\/tn L (i+l.length)=true)->∀ f,40 * (L.length - i)+11 <= f->L.length < f->∃ ns,bz ns=bz T/\lU L E f i=.ok ns (i+l.length)
theorem Kv {x:aG} (g:∀ f,L.length < f->j6 L (fun i=>jh L E f i) l T):Hj L E (az dI::eC x::az cW::(l++[az cn])) (node 2 x 0 0 a T):=by
 intro i hi ey f hf kD
 have h1:=hi.tail.tail.tail
 obtain ⟨n1,b1,p1⟩:=g f kD _ h1.app.1
 have p1:jh L E f _=.ok n1 _:=p1
 refine ⟨node 2 x 0 0 (dc L E i) n1,eS b1,?_⟩
 unfold lU
 rw [if_pos (fx hi),kK hi.tail,aT,di hi.tail.tail,aT,p1,aT,di h1.app.2,aT]
 exact Gb (by simp; omega)
theorem UO {k:Int} {x:aG} {ps:List Pt} (hk:k=3\/k=4) (hP:∀ f,L.length < f->∀ q ∈ ps,j6 L (fun i=>jx L E f i) q.1 q.2/\∃ c r,q.1=eC c::r) (g1:j6 L (fun i=>fM L E i) l1 T1) (g2:y4 L E l2 T2) :
 Hj L E (az (if k=3 then fH else dz)::eC x::az cB::(cX cw (ps.map Prod.fst)++az cg::az cW::(l1++az gk::(l2++[az cn])))) (node k x 0 0 a (Pt.all ps++T1++T2)):=by
 intro i hi ey f hf kD
 have:=hi.lt
 have h1:=hi.tail
 have h2:=h1.tail
 have h3:=h2.tail
 have tD:∃ n0,bz n0=bz (Pt.all ps)/\(if bf L (i+1+1+1) cg=true then .ok [] (i+1+1+1) else ju L (jx L E f) f (i+1+1+1))=(.ok n0 (i+1+1+1+(cX cw (ps.map Prod.fst)).length):PR (List Nd)):=by
  cases ps with
  | nil =>
    have h3:At L (i+1+1+1) (az cg::_):=h3
    exact ⟨[],rfl,by rw [if_pos (fx h3)]; rfl⟩
  | cons p ps =>
    obtain ⟨n0,b0,p0,q0⟩:=zV (f:=f) (fun q hq=>(hP f kD q hq).1) h3 (by omega)
    obtain ⟨c,r',hc⟩:=(hP f kD p (by simp)).2
    have h3:=h3.app.1
    rw [Pt.DJ,hc] at h3
    have h3:At L (i+1+1+1) (eC c::_):=h3
    exact ⟨n0,b0,by rw [if_neg (by simp [G4 h3])]; exact p0⟩
 obtain ⟨n0,b0,p0⟩:=tD
 have h4:=h3.app.2
 have:=h4.lt
 have h5:=h4.tail
 have h6:=h5.tail
 obtain ⟨n1,b1,p1⟩:=g1 _ h6.app.1
 have p1:fM L E _=.ok n1 _:=p1
 have h7:=h6.app.2
 have:=h7.lt
 have h8:=h7.tail
 have h9:=h8.app.2
 have hj:i+(az (if k=3 then fH else dz)::eC x::az cB::(cX cw (ps.map Prod.fst)++az cg::az cW::(l1++az gk::(l2++[az cn])))).length=i+1+1+1+(cX cw (ps.map Prod.fst)).length+1+1+l1.length+1+l2.length+1:=by simp; omega
 rw [hj] at ey ⊢
 obtain ⟨n2,b2,p2⟩:=g2 _ h8.app.1 ⟨wC (w:=cn) (by decide) h9,fun h=>by
  rcases ey with e | e
  . omega
  . rw [e] at h; cases h.2.2⟩ f (by omega)
 have p2:gJ L E f _=.ok n2 _:=p2
 refine ⟨node k x 0 0 (dc L E i) (n0++n1++n2),eS (gN (gN b0 b1) b2),?_⟩
 have Wy:∃ kk,kk=k/\(if bf L i fH=true then .ok 3 (i+1) else (bI L dz i).bind fun _ j=>.ok 4 j:PR Int)=.ok kk (i+1)/\bf L i dI=false:=by
  rcases hk with rfl | rfl
  . have hi:At L i (az fH::_):=hi
    exact ⟨3,rfl,by rw [if_pos (fx hi)],by rw [dU hi]; rfl⟩
  . have hi:At L i (az dz::_):=hi
    have c1:bf L i fH=false:=by rw [dU hi]; rfl
    exact ⟨4,rfl,by rw [if_neg (by simp [c1]),di hi,aT],by rw [dU hi]; rfl⟩
 obtain ⟨kk,rfl,qO,gz⟩:=Wy
 unfold lU
 rw [if_neg (by simp [gz]),qO,aT,kK h1,aT,di h2,aT,p0,aT,di h4,aT,di h5,aT,p1,aT,di h7,aT,p2,aT,di h9,aT]
end
end Go.Rip
