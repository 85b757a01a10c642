/- Lemmas for the proof: no conditions. -/
import Derived.Test.YtnfpmiiopiinbaaGreatDoorRipZz
import Derived.Test.YtnfpmiiopiinbaaGreatDoorRipK
import Derived.Test.YtnfpmiiopiinbaaGreatDoorRipX
set_option linter.unusedVariables false
set_option linter.unusedSimpArgs false
set_option linter.loopingSimpArgs false
namespace Go.Rip
def tx (t:Tk):Tx:=(t.k,t.s)
def bz (l:List Nd):List Nd:=l.map fun x=>{ x with at_:=0 }
theorem Og (a b:List Nd):bz (a++b)=bz a++bz b:=by simp [bz]
theorem Oh {a b:List Nd} (h:bz a=bz b):a.length=b.length:=by
 have:=congrArg List.length h
 simpa [bz] using this
theorem eN {k:Int} {t:aK} {n m a a':Int} {l l':List Nd} (h:bz l=bz l'):bz (node k t n m a l)=bz (node k t n m a' l'):=by
 have hl:=Oh h
 unfold node
 unfold bz at h ⊢
 simp [h,hl]
theorem gD {a b a' b':List Nd} (h:bz a=bz a') (k:bz b=bz b'):bz (a++b)=bz (a'++b'):=by rw [Og,Og,h,k]
def At (L:List Tk) (i:Nat) (l:List Tx):Prop:=∃ r,(L.drop i).map tx=l++r
section
variable {L:List Tk} {E i j:Nat} {l l' a b:List Tx} {x:Tx} {w:aK}
theorem At.nil:At L i []:=⟨_,rfl⟩
theorem At.cons (h:At L i (x::l)):(∃ t,L[i]?=some t/\tx t=x)/\At L (i+1) l:=by
 obtain ⟨r,h⟩:=h
 have h0:=congrArg (fun z:List Tx=>z[0]?) h
 simp only [nr,List.getElem?_drop,Nat.add_zero,ix,List.getElem?_cons_zero] at h0
 have h1:=congrArg (fun z:List Tx=>z.drop 1) h
 simp only [ix,List.drop_succ_cons,eD,<- List.map_drop,List.drop_drop] at h1
 refine ⟨?_,r,h1⟩
 cases ht:L[i]? with
 | none=>rw [ht] at h0; cases h0
 | some t=>rw [ht] at h0; exact ⟨t,rfl,by simpa using h0⟩
theorem At.tail (h:At L i (x::l)):At L (i+1) l:=h.cons.2
theorem At.app (h:At L i (a++b)):At L i a/\At L (i+a.length) b:=by
 obtain ⟨r,h⟩:=h
 refine ⟨⟨b++r,by rw [h,gn]⟩,⟨r,?_⟩⟩
 rw [<- List.drop_drop,List.map_drop,h,gn,List.drop_left]
theorem At.le (h:At L i l) (hi:i <= L.length):i+l.length <= L.length:=by
 obtain ⟨r,h⟩:=h
 have:=congrArg List.length h
 simp only [List.length_map,List.length_drop,df] at this
 omega
theorem At.le' (h:At L i (x::l)):i+(x::l).length <= L.length:=by
 obtain ⟨⟨t,ht,_⟩,_⟩:=h.cons
 exact h.le (Nat.le_of_lt (dx.1 ht).1)
theorem dU (h:At L i (x::l)):bj L i w=((x.1 == 3 || x.1 == 4) && x.2 == w):=by
 obtain ⟨⟨t,ht,rfl⟩,_⟩:=h.cons
 unfold bj; rw [ht]; rfl
theorem Az {k:Nat} (h:At L i (x::l)):qx L i k=(x.1 == k):=by
 obtain ⟨⟨t,ht,rfl⟩,_⟩:=h.cons
 unfold qx; rw [ht]; rfl
theorem LK:(aC w).1=3\/(aC w).1=4:=by
 unfold aC
 cases w with
 | nil=>exact .inr rfl
 | cons c r=>by_cases h:lI c=true <;> simp [h]
theorem fw (h:At L i (aC w::l)):bj L i w=true:=by
 rw [dU h]
 have:(aC w).2=w:=rfl
 rcases LK (w:=w) with h | h <;> simp [h,this]
theorem dj (h:At L i (aC w::l)):bL L w i=.ok () (i+1):=by unfold bL; rw [if_pos (fw h)]
theorem kG (h:At L i (eF w::l)):gK L i=.ok w (i+1):=by
 obtain ⟨⟨t,ht,e⟩,_⟩:=h.cons
 unfold gK; rw [ht]
 have h1:t.k=1:=congrArg Prod.fst e
 have h2:t.s=w:=congrArg Prod.snd e
 simp [h1,h2]
theorem Io:∀ (f n:Nat),n < 10 ^ f->rh 0 (mc f n)=(n:Int)
 | 0,n,h=>by simp at h; subst h; rfl
 | f+1,n,h=>by
   unfold mc
   split
   . rename_i hn
     show (10 * (0:Int)+(((48+n).toUInt8.toNat:Int) - 48))=n
     have:(48+n).toUInt8.toNat=48+n:=by simp [Nat.toUInt8,UInt8.toNat_ofNat']; omega
     omega
   . rename_i hn
     have ih:=Io f (n / 10) (by rw [Nat.pow_succ] at h; omega)
     have hd:∀ (s:aK) (c:UInt8) (a:Int),rh a (s++[c])=10 * rh a s+((c.toNat:Int) - 48):=fun s c a=>by simp [rh,List.foldl_append]
     rw [hd,ih]
     have:(48+n % 10).toUInt8.toNat=48+n % 10:=by simp [Nat.toUInt8,UInt8.toNat_ofNat']; omega
     omega
theorem Hm {n:Int} (h:dH n=true):vG (nM n)=n:=by
 simp only [dH,dS] at h
 have:=Io 20 n.toNat (by
  have:(1000000:Nat) < 10 ^ 20:=by decide
  omega)
 show rh 0 (nM n)=n
 unfold nM; rw [this]; omega
theorem qz {n:Int} (hn:dH n=true) (h:At L i (jl n::l)):jm L i=.ok n (i+1):=by
 obtain ⟨⟨t,ht,e⟩,_⟩:=h.cons
 unfold jm; rw [ht]
 have h1:t.k=2:=congrArg Prod.fst e
 have h2:t.s=nM n:=congrArg Prod.snd e
 simp [h1,h2,Hm hn]
def Fo (L:List Tk) (lev j:Nat):Prop:=(∀ l',lev <= l'->pg L l' j=none)/\bj L j cP=false/\bj L j bV=false
def GV (L:List Tk) (j:Nat):Prop:=Fo L 2 j/\¬ (bj L j cH=true/\j+1 < L.length/\tj L (j+1)=false)
theorem Fo.up {lev Iw:Nat} (h:Fo L lev j) (k:lev <= Iw):Fo L Iw j:=⟨fun l' hl=>h.1 l' (by omega),h.2⟩
def stops:List aK:=[cC,cH,oy,eU,sE,cV,rQ]
theorem Yv {lev:Nat} (h:∀ w ∈ [Cr,yp,gY,sN,sM,rP,tS,uN],bj L j w=false):pg L lev j=none:=by
 simp only [cD,List.not_mem_nil,or_false,forall_eq_or_imp,forall_eq] at h
 obtain ⟨h1,h2,h3,h4,h5,h6,h7,h8⟩:=h
 unfold pg
 simp only [h1,h2,h3,h4,h5,h6,h7,h8,bU,if_false]
 repeat' split
 all_goals rfl
theorem wm (hw:w ∈ stops) (h:At L j (aC w::l)):Fo L 2 j:=by
 have key:∀ w ∈ stops,∀ v ∈ [Cr,yp,gY,sN,sM,rP,tS,uN,cP,bV],(((aC w).1 == 3 || (aC w).1 == 4) && (aC w).2 == v)=false:=by decide
 have k:=key w hw
 refine ⟨fun l' _=>Yv fun v hv=>?_,?_,?_⟩
 . rw [dU h]; exact k v (List.mem_append_left [cP,bV] hv:_)
 . rw [dU h]; exact k _ (by simp)
 . rw [dU h]; exact k _ (by simp)
theorem uf (hw:w ∈ stops) (hs:w ≠ cH) (h:At L j (aC w::l)):GV L j:=by
 refine ⟨wm hw h,fun k=>?_⟩
 have key:∀ w ∈ stops,w ≠ cH->(((aC w).1 == 3 || (aC w).1 == 4) && (aC w).2 == cH)=false:=by decide
 rw [dU h,key w hw hs] at k
 cases k.1
def nH:List Int:=[17,18,20,21,22,23,24,25]
theorem Ng {k:Int} (hk:k ∈ nH) (h:At L j (aC (kN k)::l)):pg L (bR k) j=some k/\Fo L (bR k+1) j:=by
 have hw:∀ v,bj L j v=(((aC (kN k)).1 == 3 || (aC (kN k)).1 == 4) && (aC (kN k)).2 == v):=fun v=>dU h
 simp only [nH,cD,List.not_mem_nil,or_false] at hk
 rcases hk with rfl | rfl | rfl | rfl | rfl | rfl | rfl | rfl
 all_goals
  refine ⟨by unfold pg; simp only [hw]; rfl,fun l' hl=>?_,by rw [hw]; rfl,by rw [hw]; rfl⟩
  unfold pg
  simp only [hw]
  repeat' split
  all_goals first
   | rfl
   | (exfalso; simp only [bR] at hl; revert hl; simp; omega)
   | (exfalso; revert ‹_=true›; decide)
end
end Go.Rip
namespace Go.Rip
def DT:List Tx:=[aC oe,aC fW,aC kQ,aC ij,aC gq,aC hZ]
def BR:List Tx:=[aC rR,aC mO,aC dI,aC ga,aC eg]
def TxK (x:Tx):Prop:=x.1=1\/x.1=2\/x=aC x.2
abbrev M8 (y:Tx):Prop:=((y.1 == 3 || y.1 == 4) && y.2 == bV)=false
def Hd (lev:Nat) (l:List Tx):Prop:=∃ x r,l=x::r/\TxK x/\x ∉ BR/\(2 <= lev->x ∉ DT/\(x.1=1->∀ y r',r=y::r'->M8 y))/\(5 <= lev->x ≠ aC pJ)
theorem Hd.low {lev Iw:Nat} {l:List Tx} (h:Hd lev l) (k:Iw <= lev):Hd Iw l:=by
 obtain ⟨x,r,h1,h2,h3,h4,h5⟩:=h
 exact ⟨x,r,h1,h2,h3,fun e=>h4 (by omega),fun e=>h5 (by omega)⟩
theorem Hd.par {lev:Nat} {l:List Tx}:Hd lev (aC cP::l):=by
 refine ⟨_,_,rfl,.inr (.inr rfl),by decide,fun _=>⟨by decide,fun h=>?_⟩,fun _=>by decide⟩
 cases h
theorem Hd.app {lev:Nat} {l l':List Tx} (h:Hd lev l) (k:∀ y r',l'=y::r'->M8 y):Hd lev (l++l'):=by
 obtain ⟨x,r,rfl,h2,h3,h4,h5⟩:=h
 refine ⟨x,r++l',rfl,h2,h3,fun e=>⟨(h4 e).1,fun e1 y r' h=>?_⟩,h5⟩
 cases r with
 | nil=>exact k y r' h
 | cons z r =>
   have hz:z=y:=by simp only [ix,List.cons.injEq] at h; exact h.1
   exact (h4 e).2 e1 y r (by rw [hz])
section
variable {L:List Tk} {E:Nat}
theorem lS {i:Nat} {x:Tx} {r:List Tx} {w:aK} (h:At L i (x::r)) (hx:TxK x) (hn:x ≠ aC w):bj L i w=false:=by
 rw [dU h,Bool.eq_false_iff]
 intro e
 simp only [bX,jM,beq_iff_eq] at e
 rcases hx with hx | hx | hx
 . omega
 . omega
 . exact hn (by rw [hx,e.2])
def Rd (L:List Tk) (p:Nat->PR (List Nd)) (c i j:Nat) (T:List Nd):Prop:=∀ f,40 * (L.length - i)+c <= f->∃ ns,bz ns=bz T/\p f=.ok ns j
variable (L E) in
def q9 (l:List Tx) (T:List Nd):Prop:=∀ i,At L i l->bj L (i+l.length) cP=false->Rd L (fun f=>gI L E f i) 1 i (i+l.length) T
variable (L E) in
def mw (lev:Nat) (l:List Tx) (T:List Nd):Prop:=∀ i,At L i l->Fo L lev (i+l.length)->Rd L (fun f=>eE L E f lev i) (11 - lev) i (i+l.length) T
variable (L E) in
def tc (lev:Nat) (l:List Tx) (T:List Nd):Prop:=∀ i,At L i l->Fo L (lev+1) (i+l.length)->∀ f,40 * (L.length - i)+(11 - lev) <= f->∃ ns f',bz ns=bz T/\40 * (L.length - (i+l.length))+1 <= f'/\eE L E f lev i=lQ L E f' lev ns (i+l.length)
variable (L E) in
def dT (l:List Tx) (T:List Nd):Prop:=∀ i,At L i l->Fo L 2 (i+l.length)->Rd L (fun f=>bD L E f i) 10 i (i+l.length) T
variable (L E) in
def yW (l:List Tx) (T:List Nd):Prop:=∀ i,At L i l->GV L (i+l.length)->Rd L (fun f=>ia L E f i) 11 i (i+l.length) T
variable (L E) in
def xi (l:List Tx) (T:List Nd):Prop:=∀ i,At L i l->GV L (i+l.length)->Rd L (fun f=>jy L E f i) 12 i (i+l.length) T
variable {l:List Tx} {T:List Nd} {lev:Nat}
theorem WI (h:q9 L E l T):mw L E 9 l T:=by
 intro i hi hf f kV
 obtain ⟨f,rfl⟩:∃ g,f=g+1:=⟨f - 1,by omega⟩
 obtain ⟨ns,h1,h2⟩:=h i hi hf.2.1 f (by omega)
 exact ⟨ns,h1,by show eE L E (f+1) 9 i=_; rw [eE,if_pos rfl]; exact h2⟩
theorem YB {f lev i:Nat} {a:List Nd} (h:pg L lev i=none):lQ L E (f+1) lev a i=.ok a i:=by rw [lQ,h]
theorem FX {f lev i:Nat} (h9:lev ≠ 9) (h4:lev ≠ 4):eE L E (f+1) lev i=(eE L E f (lev+1) i).bind fun a j=>lQ L E f lev a j:=by rw [eE,if_neg h9,if_neg h4]
theorem VL (h:mw L E (lev+1) l T) (h4:lev ≠ 4) (h9:lev <= 8):tc L E lev l T:=by
 intro i hi hf f kV
 obtain ⟨f,rfl⟩:∃ g,f=g+1:=⟨f - 1,by omega⟩
 obtain ⟨ns,h1,h2⟩:=h i hi hf f (by omega)
 have h2:eE L E f (lev+1) i=.ok ns (i+l.length):=h2
 exact ⟨ns,f,h1,by omega,by rw [FX (by omega) h4,h2]; rfl⟩
theorem IP (h:tc L E lev l T):mw L E lev l T:=by
 intro i hi hf f kV
 obtain ⟨ns,f',h1,h2,h3⟩:=h i hi (hf.up (by omega)) f kV
 obtain ⟨f',rfl⟩:∃ g,f'=g+1:=⟨f' - 1,by omega⟩
 exact ⟨ns,h1,by show eE L E f lev i=_; rw [h3,YB (hf.1 lev (cX _))]⟩
theorem op4 (h:mw L E 5 l T) (hd:Hd 5 l):mw L E 4 l T:=by
 intro i hi hf f kV
 obtain ⟨f,rfl⟩:∃ g,f=g+1:=⟨f - 1,by omega⟩
 obtain ⟨ns,h1,h2⟩:=h i hi (hf.up (by omega)) f (by omega)
 have h2:eE L E f 5 i=.ok ns (i+l.length):=h2
 obtain ⟨x,r,rfl,k1,k2,k3,k4⟩:=hd
 have hn:=lS hi k1 (k4 (by omega))
 refine ⟨ns,h1,?_⟩
 show eE L E (f+1) 4 i=_
 rw [eE,if_neg (by omega),if_pos rfl,if_neg (by simp [hn])]
 exact h2
theorem Lv {own:Nat} (h:mw L E own l T) (hd:Hd own l) (h9:own <= 9):∀ (n lev:Nat),own=lev+n->2 <= lev->mw L E lev l T
 | 0,lev,e,_=>by
    obtain rfl:own=lev:=by omega
    exact h
 | n+1,lev,e,h2=>by
   have ih:=Lv h hd h9 n (lev+1) (by omega) (by omega)
   by_cases h4:lev=4
   . subst h4; exact op4 ih (hd.low (by omega))
   . exact IP (VL ih h4 (by omega))
theorem Dh {own:Nat} (h:mw L E own l T) (hd:Hd own l) (h9:own <= 9) (h2:2 <= lev) (hl:lev <= own):mw L E lev l T:=Lv h hd h9 (own - lev) lev (by omega) h2
theorem VK {own:Nat} (h:mw L E own l T) (hd:Hd own l) (h9:own <= 9) (h2:2 <= lev) (hl:lev < own) (h4:lev ≠ 4):tc L E lev l T:=VL (Dh h hd h9 (by omega) (by omega)) h4 (by omega)
theorem A7 (h:mw L E 2 l T) (hd:Hd 2 l):dT L E l T:=by
 intro i hi hf f kV
 obtain ⟨f,rfl⟩:∃ g,f=g+1:=⟨f - 1,by omega⟩
 obtain ⟨ns,h1,h2⟩:=h i hi hf f (by omega)
 have h2:eE L E f 2 i=.ok ns (i+l.length):=h2
 obtain ⟨x,r,rfl,k1,k2,k3,k4⟩:=hd
 obtain ⟨k3,k5⟩:=k3 (cX _)
 simp only [DT,cD,List.not_mem_nil,or_false,not_or] at k3
 obtain ⟨n1,n2,n3,n4,n5,n6⟩:=k3
 refine ⟨ns,h1,?_⟩
 show bD L E (f+1) i=_
 rw [bD]
 simp only [lS hi k1 n1,lS hi k1 n2,lS hi k1 n3,lS hi k1 n4,lS hi k1 n5,lS hi k1 n6,bU,if_false]
 rw [if_neg ?_]
 . exact h2
 rintro ⟨e1,e2⟩
 rw [Az hi] at e1
 have e1:x.1=1:=by simpa using e1
 cases r with
 | nil =>
   have:=hf.2.2
   simp only [gU,lB] at this
   rw [this] at e2; cases e2
 | cons y r =>
   have hy:=k5 e1 y r rfl
   have h':=hi.tail
   rw [dU h',hy] at e2
   cases e2
theorem yS (h:dT L E l T):yW L E l T:=by
 intro i hi hf f kV
 obtain ⟨f,rfl⟩:∃ g,f=g+1:=⟨f - 1,by omega⟩
 obtain ⟨ns,h1,h2⟩:=h i hi hf.1 f (by omega)
 have h2:bD L E f i=.ok ns (i+l.length):=h2
 refine ⟨ns,h1,?_⟩
 show ia L E (f+1) i=_
 rw [ia,h2]
 show oO L E f _ ns 1 (i+l.length)=_
 obtain ⟨f,rfl⟩:∃ g,f=g+1:=⟨f - 1,by omega⟩
 rw [oO,if_neg hf.2,if_pos rfl]
theorem aas {i:Nat} {w:aK} (h:At L i (l++[aC w])):At L (i+l.length) (aC w::[]):=h.app.2
theorem xl (h:yW L E l T):q9 L E (aC cP::l++[aC cC]) T:=by
 intro i hi hf f kV
 have hlen:i+(aC cP::l++[aC cC]).length=i+1+l.length+1:=by simp; omega
 have hle:i+(aC cP::l++[aC cC]).length <= L.length:=hi.le'
 rw [hlen] at hle
 obtain ⟨f,rfl⟩:∃ g,f=g+1:=⟨f - 1,by omega⟩
 have h1:At L (i+1) (l++[aC cC]):=hi.tail
 have he:=aas h1
 obtain ⟨ns,h2,h3⟩:=h (i+1) h1.app.1 (uf (by decide) (by decide) he) f (by omega)
 have h3:ia L E f (i+1)=.ok ns (i+1+l.length):=h3
 have hw:∀ v,bj L i v=(((aC cP).1 == 3 || (aC cP).1 == 4) && (aC cP).2 == v):=fun v=>dU hi
 refine ⟨ns,h2,?_⟩
 show gI L E (f+1) i=_
 rw [gI]
 have c1:bj L i dB=false:=hw _
 have c2:bj L i dE=false:=hw _
 have c3:bj L i fB=false:=hw _
 have c4:bj L i gw=false:=hw _
 have c5:bj L i jI=false:=hw _
 have c6:bj L i lM=false:=hw _
 have c7:bj L i cP=true:=hw _
 simp only [c1,c2,c3,c4,c5,c6,c7,bU,if_false,if_true]
 rw [h3]
 show (bL L cC (i+1+l.length)).bind _=_
 rw [dj he,hlen]; rfl
structure Good (L:List Tk) (E:Nat) (k:Int) (l:List Tx) (T:List Nd):Prop where
 term:yW L E l T
 first:k ≠ 9->dT L E l T
 op:2 <= bR k->mw L E (bR k) l T
 ch:bR k=2\/bR k=3\/bR k=6\/bR k=7\/bR k=8->tc L E (bR k) l T
 hd:Hd (bR k) l
theorem Eb (k:Int):bR k <= 9:=by
 unfold bR; repeat' split
 all_goals omega
section
variable {k:Int} (g:Good L E k l T)
include g
theorem Good.LZ {least:Nat}:Hd least (eK k least l):=by
 unfold eK
 split
 . exact g.hd.low ‹_›
 . exact Hd.par
theorem Good.L5 {least:Nat} (h2:2 <= lev) (hl:lev <= least) (h9:least <= 9):mw L E lev (eK k least l) T:=by
 unfold eK
 split
 . rename_i h
   exact Dh (g.op (by omega)) g.hd (Eb k) h2 (by omega)
 . exact Dh (WI (xl g.term)) Hd.par (cX _) h2 (by omega)
theorem Good.aax (h:lev=2\/lev=3\/lev=6\/lev=7\/lev=8):tc L E lev (eK k lev l) T:=by
 unfold eK
 split
 . rename_i h'
   by_cases e:lev=bR k
   . subst e; exact g.ch h
   . exact VK (g.op (by omega)) g.hd (Eb k) (by omega) (by omega) (by omega)
 . exact VK (WI (xl g.term)) Hd.par (cX _) (by omega) (by omega) (by omega)
theorem Good.jq:dT L E (eK k 1 l) T:=by
 unfold eK
 split
 . rename_i h
   exact g.first fun e=>by subst e; exact absurd h (by decide)
 . exact A7 (Dh (WI (xl g.term)) Hd.par (cX _) (by omega) (by omega)) (Hd.par)
end
theorem Aw {k:Int} (h2:2 <= bR k) (h:mw L E (bR k) l T) (hd:Hd (bR k) l) (hc:bR k=2\/bR k=3\/bR k=6\/bR k=7\/bR k=8->tc L E (bR k) l T):Good L E k l T :=
 have h1:dT L E l T:=A7 (Dh h hd (Eb k) (cX _) h2) (hd.low h2)
 ⟨yS h1,fun _=>h1,fun _=>h,hc,hd⟩
theorem KK {k:Int} (h2:bR k=2\/bR k=3\/bR k=6\/bR k=7\/bR k=8) (h:tc L E (bR k) l T) (hd:Hd (bR k) l):Good L E k l T:=Aw (by omega) (IP h) hd fun _=>h
theorem lZ {k:Int} (h9:bR k=9) (h:q9 L E l T) (hd:Hd 9 l):Good L E k l T:=Aw (by omega) (h9 ▸ WI h) (h9 ▸ hd) (by omega)
theorem nP {k:Int} (h1:bR k=1) (h:dT L E l T) (hd:Hd 1 l):Good L E k l T:=⟨yS h,fun _=>h,by omega,by omega,h1 ▸ hd⟩
end
end Go.Rip
namespace Go.Rip
theorem FU {α:Type} {x:α} {a b:Nat} (h:a=b):(PR.ok x a:PR α)=.ok x b:=by rw [h]
@[simp] theorem aU {α β:Type} {a:α} {i:Nat} {f:α->Nat->PR β}:(PR.ok a i).bind f=f a i:=rfl
section
variable {L:List Tk} {E:Nat} {l l0 l1 l2 r:List Tx} {T T0 T1 T2:List Nd} {i f:Nat} {w:aK} {a:Int}
theorem dT.go (g:dT L E l T) (h:At L i (l++aC w::r)) (hw:w ∈ stops) (hf:40 * (L.length - i)+10 <= f):∃ ns,bz ns=bz T/\bD L E f i=.ok ns (i+l.length)/\At L (i+l.length) (aC w::r):=by
 obtain ⟨ns,h1,h2⟩:=g i h.app.1 (wm hw h.app.2) f hf
 exact ⟨ns,h1,h2,h.app.2⟩
theorem At.lt {x:Tx} (h:At L i (x::l)):i+1 <= L.length:=by
 have:=h.le'
 simp at this; omega
theorem TE (g0:dT L E l0 T0) (g1:dT L E l1 T1) (g2:dT L E l2 T2):dT L E (aC oe::(l0++aC oy::(l1++aC eU::l2))) (node 10 [] 0 0 a (T0++T1++T2)):=by
 intro i hi hf f kV
 have hl:=hi.lt
 obtain ⟨f,rfl⟩:∃ g,f=g+1:=⟨f - 1,by omega⟩
 obtain ⟨n0,b0,p0,q0⟩:=g0.go hi.tail (w:=oy) (f:=f) (by decide) (by omega)
 have qO:=q0.lt
 obtain ⟨n1,b1,p1,q1⟩:=g1.go q0.tail (w:=eU) (f:=f) (by decide) (by omega)
 have Fg:=q1.lt
 have hj:i+(aC oe::(l0++aC oy::(l1++aC eU::l2))).length=i+1+l0.length+1+l1.length+1+l2.length:=by simp; omega
 rw [hj] at hf ⊢
 obtain ⟨n2,b2,p2⟩:=g2 _ q1.tail hf f (by omega)
 have p2:bD L E f _=.ok n2 _:=p2
 refine ⟨node 10 [] 0 0 (de L E i) (n0++n1++n2),eN (gD (gD b0 b1) b2),?_⟩
 show bD L E (f+1) i=_
 rw [bD,if_pos (fw hi),p0,aU,dj q0,aU,p1,aU,dj q1,aU,p2,aU]
theorem JX (g0:dT L E l0 T0) (g1:dT L E l1 T1):dT L E (aC fW::(l0++aC sE::l1)) (node 11 [] 0 0 a (T0++T1)):=by
 intro i hi hf f kV
 have hl:=hi.lt
 obtain ⟨f,rfl⟩:∃ g,f=g+1:=⟨f - 1,by omega⟩
 obtain ⟨n0,b0,p0,q0⟩:=g0.go hi.tail (w:=sE) (f:=f) (by decide) (by omega)
 have qO:=q0.lt
 have hj:i+(aC fW::(l0++aC sE::l1)).length=i+1+l0.length+1+l1.length:=by simp; omega
 rw [hj] at hf ⊢
 obtain ⟨n1,b1,p1⟩:=g1 _ q0.tail hf f (by omega)
 have p1:bD L E f _=.ok n1 _:=p1
 have hw:∀ v,bj L i v=(((aC fW).1 == 3 || (aC fW).1 == 4) && (aC fW).2 == v):=fun v=>dU hi
 have c1:bj L i oe=false:=hw _
 refine ⟨node 11 [] 0 0 (de L E i) (n0++n1),eN (gD b0 b1),?_⟩
 show bD L E (f+1) i=_
 rw [bD,if_neg (by simp [c1]),if_pos (fw hi),p0,aU,dj q0,aU,p1,aU]
theorem Hw (g0:dT L E l0 T0) (g1:dT L E l1 T1):dT L E (aC gq::(l0++aC eU::l1)) (node 15 [] 0 0 a (T0++T1)):=by
 intro i hi hf f kV
 have hl:=hi.lt
 obtain ⟨f,rfl⟩:∃ g,f=g+1:=⟨f - 1,by omega⟩
 obtain ⟨n0,b0,p0,q0⟩:=g0.go hi.tail (w:=eU) (f:=f) (by decide) (by omega)
 have qO:=q0.lt
 have hj:i+(aC gq::(l0++aC eU::l1)).length=i+1+l0.length+1+l1.length:=by simp; omega
 rw [hj] at hf ⊢
 obtain ⟨n1,b1,p1⟩:=g1 _ q0.tail hf f (by omega)
 have p1:bD L E f _=.ok n1 _:=p1
 have hw:∀ v,bj L i v=(((aC gq).1 == 3 || (aC gq).1 == 4) && (aC gq).2 == v):=fun v=>dU hi
 have c1:bj L i oe=false:=hw _
 have c2:bj L i fW=false:=hw _
 have c3:bj L i kQ=false:=hw _
 have c4:bj L i ij=false:=hw _
 refine ⟨node 15 [] 0 0 (de L E i) (n0++n1),eN (gD b0 b1),?_⟩
 show bD L E (f+1) i=_
 rw [bD,if_neg (by simp [c1]),if_neg (by simp [c2]),if_neg (by simp [c3]),if_neg (by simp [c4]),if_pos (fw hi),p0,aU,dj q0,aU,p1,aU]
theorem JW {x:aK} (g0:dT L E l0 T0) (g1:dT L E l1 T1):dT L E (aC ij::eF x::aC kK::(l0++aC eU::l1)) (node 13 x 0 0 a (T0++T1)):=by
 intro i hi hf f kV
 have hl:=hi.lt
 obtain ⟨f,rfl⟩:∃ g,f=g+1:=⟨f - 1,by omega⟩
 have h1:=hi.tail
 have h2:=h1.tail
 have:=h1.lt
 have:=h2.lt
 obtain ⟨n0,b0,p0,q0⟩:=g0.go h2.tail (w:=eU) (f:=f) (by decide) (by omega)
 have qO:=q0.lt
 have hj:i+(aC ij::eF x::aC kK::(l0++aC eU::l1)).length=i+1+1+1+l0.length+1+l1.length:=by simp; omega
 rw [hj] at hf ⊢
 obtain ⟨n1,b1,p1⟩:=g1 _ q0.tail hf f (by omega)
 have p1:bD L E f _=.ok n1 _:=p1
 have hw:∀ v,bj L i v=(((aC ij).1 == 3 || (aC ij).1 == 4) && (aC ij).2 == v):=fun v=>dU hi
 have c1:bj L i oe=false:=hw _
 have c2:bj L i fW=false:=hw _
 have c3:bj L i kQ=false:=hw _
 refine ⟨node 13 x 0 0 (de L E i) (n0++n1),eN (gD b0 b1),?_⟩
 show bD L E (f+1) i=_
 rw [bD,if_neg (by simp [c1]),if_neg (by simp [c2]),if_neg (by simp [c3]),if_pos (fw hi),kG h1,aU,dj h2,aU,p0,aU,dj q0,aU,p1,aU]
theorem OB {x:aK} {n m:Int} (hn:dH n=true) (hm:dH m=true) (g0:dT L E l0 T0):dT L E (aC kQ::eF x::aC ez::jl n::aC bV::jl m::aC kK::l0) (node 12 x n m a T0):=by
 intro i hi hf f kV
 have hl:=hi.lt
 obtain ⟨f,rfl⟩:∃ g,f=g+1:=⟨f - 1,by omega⟩
 have h1:=hi.tail
 have h2:=h1.tail
 have h3:=h2.tail
 have h4:=h3.tail
 have h5:=h4.tail
 have h6:=h5.tail
 have:=h6.lt
 have hj:i+(aC kQ::eF x::aC ez::jl n::aC bV::jl m::aC kK::l0).length=i+1+1+1+1+1+1+1+l0.length:=by simp; omega
 rw [hj] at hf ⊢
 obtain ⟨n1,b1,p1⟩:=g0 _ h6.tail hf f (by omega)
 have p1:bD L E f _=.ok n1 _:=p1
 have hw:∀ v,bj L i v=(((aC kQ).1 == 3 || (aC kQ).1 == 4) && (aC kQ).2 == v):=fun v=>dU hi
 have c1:bj L i oe=false:=hw _
 have c2:bj L i fW=false:=hw _
 refine ⟨node 12 x n m (de L E i) n1,eN b1,?_⟩
 show bD L E (f+1) i=_
 rw [bD,if_neg (by simp [c1]),if_neg (by simp [c2]),if_pos (fw hi),kG h1,aU,dj h2,aU,qz hn h3,aU,dj h4,aU,qz hm h5,aU,dj h6,aU,p1,aU]
theorem Hx {x:aK} {n:Int} (hn:dH n=true) (g0:dT L E l0 T0):dT L E (aC hZ::eF x::aC bV::jl n::aC kK::l0) (node 14 x n 0 a T0):=by
 intro i hi hf f kV
 have hl:=hi.lt
 obtain ⟨f,rfl⟩:∃ g,f=g+1:=⟨f - 1,by omega⟩
 have h1:=hi.tail
 have h2:=h1.tail
 have h3:=h2.tail
 have h4:=h3.tail
 have:=h4.lt
 have hj:i+(aC hZ::eF x::aC bV::jl n::aC kK::l0).length=i+1+1+1+1+1+l0.length:=by simp; omega
 rw [hj] at hf ⊢
 obtain ⟨n1,b1,p1⟩:=g0 _ h4.tail hf f (by omega)
 have p1:bD L E f _=.ok n1 _:=p1
 have hw:∀ v,bj L i v=(((aC hZ).1 == 3 || (aC hZ).1 == 4) && (aC hZ).2 == v):=fun v=>dU hi
 have c1:bj L i oe=false:=hw _
 have c2:bj L i fW=false:=hw _
 have c3:bj L i kQ=false:=hw _
 have c4:bj L i ij=false:=hw _
 have c5:bj L i gq=false:=hw _
 refine ⟨node 14 x n 0 (de L E i) n1,eN b1,?_⟩
 show bD L E (f+1) i=_
 rw [bD,if_neg (by simp [c1]),if_neg (by simp [c2]),if_neg (by simp [c3]),if_neg (by simp [c4]),if_neg (by simp [c5]),if_pos (fw hi),kG h1,aU,dj h2,aU,qz hn h3,aU,dj h4,aU,p1,aU]
theorem GJ {x v:aK} (h:At L i (eF x::l)):bj L i v=false:=by rw [dU h]; rfl
theorem adU {n:Int} {v:aK} (h:At L i (jl n::l)):bj L i v=false:=by rw [dU h]; rfl
theorem OC {x:aK} (g0:dT L E l0 T0):dT L E (eF x::aC bV::l0) (node 16 x 0 0 a T0):=by
 intro i hi hf f kV
 have hl:=hi.lt
 obtain ⟨f,rfl⟩:∃ g,f=g+1:=⟨f - 1,by omega⟩
 have h1:=hi.tail
 have:=h1.lt
 have hj:i+(eF x::aC bV::l0).length=i+1+1+l0.length:=by simp; omega
 rw [hj] at hf ⊢
 obtain ⟨n1,b1,p1⟩:=g0 _ h1.tail hf f (by omega)
 have p1:bD L E f _=.ok n1 _:=p1
 refine ⟨node 16 x 0 0 (de L E i) n1,eN b1,?_⟩
 show bD L E (f+1) i=_
 have hk:qx L i 1=true:=by rw [Az hi]; rfl
 rw [bD]
 simp only [GJ hi,bU,if_false]
 rw [if_pos ⟨hk,fw h1⟩,kG hi,aU,dj h1,aU,p1,aU]
theorem aaA {k:Int} (hk:k ∈ nH) (h5:bR k ≠ 5) (h8:bR k ≠ 8) (g0:tc L E (bR k) l0 T0) (g1:mw L E (bR k+1) l1 T1) (h2:2 <= bR k):tc L E (bR k) (l0++aC (kN k)::l1) (node k [] 0 0 a (T0++T1)):=by
 intro i hi hf f kV
 obtain ⟨q0,q1⟩:=hi.app
 obtain ⟨o1,o2⟩:=Ng hk q1
 have:=q1.lt
 obtain ⟨n0,f',b0,km,p0⟩:=g0 i q0 o2 f kV
 obtain ⟨f',rfl⟩:∃ g,f'=g+1:=⟨f' - 1,by omega⟩
 have hj:i+(l0++aC (kN k)::l1).length=i+l0.length+1+l1.length:=by simp; omega
 rw [hj] at hf ⊢
 obtain ⟨n1,b1,p1⟩:=g1 _ q1.tail hf f' (by omega)
 have p1:eE L E f' _ _=.ok n1 _:=p1
 refine ⟨node k [] 0 0 (de L E (i+l0.length)) (n0++n1),f',eN (gD b0 b1),by omega,?_⟩
 rw [p0,lQ,o1]
 simp only [if_neg h8,if_neg h5]
 rw [p1,aU]
theorem Yx {k:Int} (hk:k ∈ nH) (h5:bR k=5) (g0:mw L E 6 l0 T0) (g1:mw L E 6 l1 T1):mw L E 5 (l0++aC (kN k)::l1) (node k [] 0 0 a (T0++T1)):=by
 intro i hi hf f kV
 obtain ⟨q0,q1⟩:=hi.app
 obtain ⟨o1,o2⟩:=Ng hk q1
 rw [h5] at o1 o2
 have:=q1.lt
 obtain ⟨f,rfl⟩:∃ g,f=g+1:=⟨f - 1,by omega⟩
 obtain ⟨n0,b0,p0⟩:=g0 i q0 o2 f (by omega)
 have p0:eE L E f 6 i=.ok n0 _:=p0
 have hj:i+(l0++aC (kN k)::l1).length=i+l0.length+1+l1.length:=by simp; omega
 rw [hj] at hf ⊢
 obtain ⟨f,rfl⟩:∃ g,f=g+1:=⟨f - 1,by omega⟩
 obtain ⟨n1,b1,p1⟩:=g1 _ q1.tail (hf.up (by omega)) f (by omega)
 have p1:eE L E f 6 _=.ok n1 _:=p1
 refine ⟨node k [] 0 0 (de L E (i+l0.length)) (n0++n1),eN (gD b0 b1),?_⟩
 show eE L E (f+1+1) 5 i=_
 rw [FX (by omega) (by omega),p0,aU,lQ,o1]
 simp only [show ¬ ((5:Nat)=8) by omega,if_false,if_true]
 rw [p1,aU]
theorem adi {n:Int} (hn:dH n=true) (g0:tc L E 8 l0 T0):tc L E 8 (l0++aC uN::jl n::[]) (node 25 [] n 0 a T0):=by
 intro i hi hf f kV
 obtain ⟨q0,q1⟩:=hi.app
 obtain ⟨o1,o2⟩:=Ng (k:=25) (by decide) q1
 have:=q1.lt
 have:=q1.tail.lt
 obtain ⟨n0,f',b0,km,p0⟩:=g0 i q0 o2 f kV
 obtain ⟨f',rfl⟩:∃ g,f'=g+1:=⟨f' - 1,by omega⟩
 have hj:i+(l0++aC uN::jl n::[]).length=i+l0.length+1+1:=by simp; omega
 rw [hj] at hf ⊢
 refine ⟨node 25 [] n 0 (de L E (i+l0.length)) n0,f',eN b0,by omega,?_⟩
 have o1:pg L 8 (i+l0.length)=some 25:=o1
 rw [p0,lQ,o1]
 simp only [if_true]
 rw [qz hn q1.tail,aU]
theorem abr (g0:mw L E 4 l0 T0):mw L E 4 (aC pJ::l0) (node 19 [] 0 0 a T0):=by
 intro i hi hf f kV
 have:=hi.lt
 obtain ⟨f,rfl⟩:∃ g,f=g+1:=⟨f - 1,by omega⟩
 have hj:i+(aC pJ::l0).length=i+1+l0.length:=by simp; omega
 rw [hj] at hf ⊢
 obtain ⟨n0,b0,p0⟩:=g0 _ hi.tail hf f (by omega)
 have p0:eE L E f 4 _=.ok n0 _:=p0
 refine ⟨node 19 [] 0 0 (de L E i) n0,eN b0,?_⟩
 show eE L E (f+1) 4 i=_
 rw [eE,if_neg (by omega),if_pos rfl,if_pos (fw hi),p0,aU]
theorem Tc {n:Int} (hn:dH n=true):q9 L E [jl n] (node 26 [] n 0 a []):=by
 intro i hi hf f kV
 have:=hi.lt
 obtain ⟨f,rfl⟩:∃ g,f=g+1:=⟨f - 1,by omega⟩
 refine ⟨node 26 [] n 0 (de L E i) [],eN rfl,?_⟩
 show gI L E (f+1) i=_
 have hk:qx L i 2=true:=by rw [Az hi]; rfl
 rw [gI]
 simp only [adU hi,bU,if_false,hk,if_true]
 rw [qz hn hi,aU]; rfl
theorem uR {k:Int} (h:(k,w) ∈ [((27:Int),dB),(28,dE),(29,fB),(30,gw)]):q9 L E [aC w] (node k [] 0 0 a []):=by
 intro i hi hf f kV
 have:=hi.lt
 obtain ⟨f,rfl⟩:∃ g,f=g+1:=⟨f - 1,by omega⟩
 refine ⟨node k [] 0 0 (de L E i) [],eN rfl,?_⟩
 show gI L E (f+1) i=_
 have hw:∀ v,bj L i v=(((aC w).1 == 3 || (aC w).1 == 4) && (aC w).2 == v):=fun v=>dU hi
 rw [gI]
 simp only [hw]
 simp only [cD,List.not_mem_nil,or_false,jA] at h
 rcases h with ⟨rfl,rfl⟩ | ⟨rfl,rfl⟩ | ⟨rfl,rfl⟩ | ⟨rfl,rfl⟩ <;> rfl
theorem N1 {x:aK}:q9 L E [aC jI,eF x] (node 31 x 0 0 a []):=by
 intro i hi hf f kV
 have:=hi.lt
 obtain ⟨f,rfl⟩:∃ g,f=g+1:=⟨f - 1,by omega⟩
 refine ⟨node 31 x 0 0 (de L E i) [],eN rfl,?_⟩
 show gI L E (f+1) i=_
 have hw:∀ v,bj L i v=(((aC jI).1 == 3 || (aC jI).1 == 4) && (aC jI).2 == v):=fun v=>dU hi
 have c1:bj L i dB=false:=hw _
 have c2:bj L i dE=false:=hw _
 have c3:bj L i fB=false:=hw _
 have c4:bj L i gw=false:=hw _
 rw [gI]
 simp only [c1,c2,c3,c4,bU,if_false]
 rw [if_pos (fw hi),kG hi.tail,aU]; rfl
theorem Tb {x:aK}:q9 L E [aC lM,eF x] (node 32 x 0 0 a []):=by
 intro i hi hf f kV
 have:=hi.lt
 obtain ⟨f,rfl⟩:∃ g,f=g+1:=⟨f - 1,by omega⟩
 refine ⟨node 32 x 0 0 (de L E i) [],eN rfl,?_⟩
 show gI L E (f+1) i=_
 have hw:∀ v,bj L i v=(((aC lM).1 == 3 || (aC lM).1 == 4) && (aC lM).2 == v):=fun v=>dU hi
 have c1:bj L i dB=false:=hw _
 have c2:bj L i dE=false:=hw _
 have c3:bj L i fB=false:=hw _
 have c4:bj L i gw=false:=hw _
 have c5:bj L i jI=false:=hw _
 rw [gI]
 simp only [c1,c2,c3,c4,c5,bU,if_false]
 rw [if_pos (fw hi),kG hi.tail,aU]; rfl
theorem WE {x:aK} (h:At L i (eF x::l)):qx L i 2=false:=by rw [Az h]; rfl
theorem N2 {x:aK}:q9 L E [eF x] (node 33 x 0 0 a []):=by
 intro i hi hf f kV
 have:=hi.lt
 obtain ⟨f,rfl⟩:∃ g,f=g+1:=⟨f - 1,by omega⟩
 refine ⟨node 33 x 0 0 (de L E i) [],eN rfl,?_⟩
 have hf:bj L (i+1) cP=false:=hf
 show gI L E (f+1) i=_
 rw [gI]
 simp only [GJ hi,WE hi,bU,if_false]
 rw [kG hi,aU,if_neg (by simp [hf])]; rfl
end
end Go.Rip
namespace Go.Rip
theorem nI (w:aK):∀ (l:List Tx) (ls:List (List Tx)),dz w (l::ls)=l++ls.flatMap fun m=>aC w::m
 | l,[]=>by simp [dz]
 | l,m::ls=>by rw [dz,nI w m ls]; simp
abbrev Pt:=List Tx × List Nd
def Pt.sep (w:aK) (P:List Pt):List Tx:=P.flatMap fun p=>aC w::p.1
def Pt.all (P:List Pt):List Nd:=P.flatMap fun p=>p.2
theorem Pt.Dw (w:aK) (p:Pt) (P:List Pt):dz w ((p::P).map Prod.fst)=p.1++Pt.sep w P:=by
 rw [eC,nI]
 unfold Pt.sep
 rw [List.flatMap_map]
section
variable {L:List Tk} {E:Nat} {l l0 l1 l2 r:List Tx} {T T0 T1 T2:List Nd} {w:aK} {a:Int}
theorem Good.arg {k:Int} (g:Good L E k l T):xi L E l T:=by
 intro i hi hf f kV
 obtain ⟨f,rfl⟩:∃ g,f=g+1:=⟨f - 1,by omega⟩
 obtain ⟨ns,h1,h2⟩:=g.term i hi hf f (by omega)
 have h2:ia L E f i=.ok ns (i+l.length):=h2
 obtain ⟨x,r,rfl,k1,k2,_⟩:=g.hd
 simp only [BR,cD,List.not_mem_nil,or_false,not_or] at k2
 refine ⟨ns,h1,?_⟩
 show jy L E (f+1) i=_
 rw [jy,if_neg (by simp [lS hi k1 k2.1]),if_neg (by simp [lS hi k1 k2.2.1])]
 exact h2
theorem F0:∀ (P:List Pt) (i f:Nat) (acc:List Nd),(∀ p ∈ P,xi L E p.1 p.2)->At L i (Pt.sep cV P++aC cC::r)->40 * (L.length - i)+1 <= f->∃ ns,bz ns=bz (Pt.all P)/\lG L E f acc i=.ok (acc++ns) (i+(Pt.sep cV P).length)
 | [],i,f,acc,hP,hi,hf=>by
   obtain ⟨f,rfl⟩:∃ g,f=g+1:=⟨f - 1,by omega⟩
   have hi:At L i (aC cC::r):=hi
   refine ⟨[],rfl,?_⟩
   have hc:bj L i cV=false:=by rw [dU hi]; rfl
   rw [lG,if_neg (by simp [hc]),gy]; rfl
 | p::P,i,f,acc,hP,hi,hf=>by
   obtain ⟨f,rfl⟩:∃ g,f=g+1:=⟨f - 1,by omega⟩
   have hi:At L i (aC cV::(p.1++(Pt.sep cV P++aC cC::r))):=by simpa [Pt.sep] using hi
   have hl:=hi.lt
   have h1:=hi.tail
   have h2:=h1.app.2
   have ep:GV L (i+1+p.1.length):=by
    cases P with
    | nil=>exact uf (w:=cC) (by decide) (by decide) h2
    | cons q P=>exact uf (w:=cV) (by decide) (by decide) h2
   obtain ⟨n0,b0,p0⟩:=hP p (by simp) _ h1.app.1 ep f (by omega)
   have p0:jy L E f _=.ok n0 _:=p0
   obtain ⟨ns,b1,p1⟩:=F0 P _ f (acc++n0) (fun q hq=>hP q (by simp [hq])) h2 (by omega)
   refine ⟨n0++ns,by rw [Pt.all,List.flatMap_cons]; exact gD b0 b1,?_⟩
   rw [lG,if_pos (fw hi),p0,aU,p1,gn]
   exact FU (by simp [Pt.sep]; omega)
theorem N0 {x:aK} {p:Pt} {P:List Pt} (hP:∀ q ∈ p::P,xi L E q.1 q.2):q9 L E (eF x::aC cP::dz cV ((p::P).map Prod.fst)++[aC cC]) (node 34 x 0 0 a (Pt.all (p::P))):=by
 intro i hi hf f kV
 obtain ⟨f,rfl⟩:∃ g,f=g+1:=⟨f - 1,by omega⟩
 rw [Pt.Dw] at hi ⊢
 have hi:At L i (eF x::aC cP::(p.1++(Pt.sep cV P++aC cC::[]))):=by simpa using hi
 have hl:=hi.lt
 have h1:=hi.tail
 have:=h1.lt
 have h2:=h1.tail.app.2
 have ep:GV L (i+1+1+p.1.length):=by
  cases P with
  | nil=>exact uf (w:=cC) (by decide) (by decide) h2
  | cons q P=>exact uf (w:=cV) (by decide) (by decide) h2
 obtain ⟨n0,b0,p0⟩:=hP p (by simp) _ h1.tail.app.1 ep f (by omega)
 have p0:jy L E f _=.ok n0 _:=p0
 obtain ⟨ns,b1,p1⟩:=F0 P _ f n0 (fun q hq=>hP q (by simp [hq])) h2 (by omega)
 refine ⟨node 34 x 0 0 (de L E i) (n0++ns),eN (by rw [Pt.all,List.flatMap_cons]; exact gD b0 b1),?_⟩
 show gI L E (f+1) i=_
 rw [gI]
 simp only [GJ hi,WE hi,bU,if_false]
 rw [kG hi,aU,if_pos (fw h1),p0,aU,p1,aU,dj h2.app.2,aU]
 exact FU (by simp; omega)
theorem Wu {i:Nat} {lev:Nat} (hd:Hd lev l) (h:At L i (l++r)):i+1 <= L.length/\tj L i=false:=by
 obtain ⟨x,r',rfl,k1,k2,_⟩:=hd
 simp only [BR,cD,List.not_mem_nil,or_false,not_or] at k2
 have h:At L i (x::(r'++r)):=h
 refine ⟨h.lt,?_⟩
 unfold tj
 rw [lS h k1 k2.2.2.1,lS h k1 k2.2.2.2.1,lS h k1 k2.2.2.2.2]; rfl
theorem Qk:∀ (P:List Pt) (i f:Nat) (at_:Int) (acc:List Nd) (many:Nat),(∀ p ∈ P,dT L E p.1 p.2/\Hd 0 p.1)->At L i (Pt.sep cH P)->GV L (i+(Pt.sep cH P).length)->40 * (L.length - i)+1 <= f->∃ ns,bz ns=bz (Pt.all P)/\oO L E f at_ acc many i=.ok (if many+P.length=1 then acc++ns else node 9 [] 0 0 at_ (acc++ns)) (i+(Pt.sep cH P).length)
 | [],i,f,at_,acc,many,hP,hi,hf,kV=>by
   obtain ⟨f,rfl⟩:∃ g,f=g+1:=⟨f - 1,by omega⟩
   have hf:GV L i:=hf
   refine ⟨[],rfl,?_⟩
   rw [oO,if_neg hf.2]
   simp only [gy,lB,Nat.add_zero]; rfl
 | p::P,i,f,at_,acc,many,hP,hi,hf,kV=>by
   obtain ⟨f,rfl⟩:∃ g,f=g+1:=⟨f - 1,by omega⟩
   have hj:i+(Pt.sep cH (p::P)).length=i+1+p.1.length+(Pt.sep cH P).length:=by simp [Pt.sep]; omega
   rw [hj] at hf ⊢
   have hi:At L i (aC cH::(p.1++Pt.sep cH P)):=by simpa [Pt.sep] using hi
   have hl:=hi.lt
   have h1:=hi.tail
   have h2:=h1.app.2
   obtain ⟨g1,g2⟩:=hP p (by simp)
   obtain ⟨k1,k2⟩:=Wu g2 h1
   have ep:Fo L 2 (i+1+p.1.length):=by
    cases P with
    | nil=>exact hf.1
    | cons q P=>exact wm (w:=cH) (by decide) h2
   obtain ⟨n0,b0,p0⟩:=g1 _ h1.app.1 ep f (by omega)
   have p0:bD L E f _=.ok n0 _:=p0
   obtain ⟨ns,b1,p1⟩:=Qk P _ f at_ (acc++n0) (many+1) (fun q hq=>hP q (by simp [hq])) h2 hf (by omega)
   refine ⟨n0++ns,by rw [Pt.all,List.flatMap_cons]; exact gD b0 b1,?_⟩
   rw [oO,if_pos ⟨fw hi,by omega,k2⟩,p0,aU,p1,gn,gU,show many+1+P.length=many+(P.length+1) by omega]
theorem Vp {p q:Pt} {P:List Pt} (hP:∀ x ∈ p::q::P,dT L E x.1 x.2/\Hd 0 x.1):yW L E (dz cH ((p::q::P).map Prod.fst)) (node 9 [] 0 0 a (Pt.all (p::q::P))):=by
 intro i hi hf f kV
 obtain ⟨f,rfl⟩:∃ g,f=g+1:=⟨f - 1,by omega⟩
 rw [Pt.Dw] at hi hf ⊢
 have hj:i+(p.1++Pt.sep cH (q::P)).length=i+p.1.length+(Pt.sep cH (q::P)).length:=by simp; omega
 rw [hj] at hf ⊢
 obtain ⟨g1,g2⟩:=hP p (by simp)
 obtain ⟨k1,k2⟩:=Wu g2 hi
 have h2:=hi.app.2
 obtain ⟨n0,b0,p0⟩:=g1 _ hi.app.1 (wm (w:=cH) (by decide) (show At L _ (aC cH::(q.1++Pt.sep cH P)) from by simpa [Pt.sep] using h2)) f (by omega)
 have p0:bD L E f _=.ok n0 _:=p0
 have hle:=hi.app.1.le (by omega)
 have rq:1 <= p.1.length:=by
  obtain ⟨x,r',e,_⟩:=g2
  rw [e]; simp
 obtain ⟨ns,b1,p1⟩:=Qk (q::P) _ f (de L E (i+p.1.length)) n0 1 (fun x hx=>hP x (by simp only [cD] at hx ⊢; exact .inr hx)) h2 hf (by omega)
 refine ⟨node 9 [] 0 0 (de L E (i+p.1.length)) (n0++ns),eN (by rw [Pt.all,List.flatMap_cons]; exact gD b0 b1),?_⟩
 show ia L E (f+1) i=_
 rw [ia,p0,aU,p1,if_neg (by simp)]
def jQ (L:List Tk) (one:Nat->PR (List Nd)) (l:List Tx) (T:List Nd):Prop:=∀ i,At L i l->∃ ns,bz ns=bz T/\one i=.ok ns (i+l.length)
theorem Lk {one:Nat->PR (List Nd)}:∀ (P:List Pt) (i f:Nat) (acc:List Nd),(∀ p ∈ P,jQ L one p.1 p.2)->At L i (Pt.sep cV P++aC cC::r)->L.length - i < f->∃ ns,bz ns=bz (Pt.all P)/\mN L one f acc i=.ok (acc++ns) (i+(Pt.sep cV P).length)
 | [],i,f,acc,hP,hi,hf=>by
   obtain ⟨f,rfl⟩:∃ g,f=g+1:=⟨f - 1,by omega⟩
   have hi:At L i (aC cC::r):=hi
   refine ⟨[],rfl,?_⟩
   have hc:bj L i cV=false:=by rw [dU hi]; rfl
   rw [mN,if_neg (by simp [hc]),gy]; rfl
 | p::P,i,f,acc,hP,hi,hf=>by
   obtain ⟨f,rfl⟩:∃ g,f=g+1:=⟨f - 1,by omega⟩
   have hi:At L i (aC cV::(p.1++(Pt.sep cV P++aC cC::r))):=by simpa [Pt.sep] using hi
   have hl:=hi.lt
   have h1:=hi.tail
   have h2:=h1.app.2
   obtain ⟨n0,b0,p0⟩:=hP p (by simp) _ h1.app.1
   obtain ⟨ns,b1,p1⟩:=Lk P _ f (acc++n0) (fun q hq=>hP q (by simp [hq])) h2 (by omega)
   refine ⟨n0++ns,by rw [Pt.all,List.flatMap_cons]; exact gD b0 b1,?_⟩
   rw [mN,if_pos (fw hi),p0,aU,p1,gn]
   exact FU (by simp [Pt.sep]; omega)
theorem zS {one:Nat->PR (List Nd)} {p:Pt} {P:List Pt} {i f:Nat} (hP:∀ q ∈ p::P,jQ L one q.1 q.2) (hi:At L i (dz cV ((p::P).map Prod.fst)++aC cC::r)) (hf:L.length - i < f):∃ ns,bz ns=bz (Pt.all (p::P))/\jT L one f i=.ok ns (i+(dz cV ((p::P).map Prod.fst)).length)/\At L (i+(dz cV ((p::P).map Prod.fst)).length) (aC cC::r):=by
 refine (fun (h:_/\_)=>?_) hi.app
 rw [Pt.Dw] at hi h ⊢
 rw [gn] at hi
 obtain ⟨n0,b0,p0⟩:=hP p (by simp) _ hi.app.1
 obtain ⟨ns,b1,p1⟩:=Lk P _ f n0 (fun q hq=>hP q (by simp [hq])) hi.app.2 (by omega)
 refine ⟨n0++ns,by rw [Pt.all,List.flatMap_cons]; exact gD b0 b1,?_,h.2⟩
 rw [jT,p0,aU,p1]
 exact FU (by simp; omega)
def Am (k n:Int):List Tx:=if k=6 then (if n=1 then [aC sO] else if n=2 then [aC ow] else [aC ku,jl n]) else [aC jH,jl n]
theorem Kv {k n:Int} (hk:k=6\/k=7) (hn:dH n=true):jQ L (fun i=>fX L E i) (Am k n) (node k [] n 0 a []):=by
 intro i hi
 refine ⟨node k [] n 0 (de L E i) [],eN rfl,?_⟩
 show fX L E i=_
 unfold Am at hi ⊢
 rcases hk with rfl | rfl
 . rw [if_pos rfl] at hi ⊢
   by_cases h1:n=1
   . subst h1
     rw [if_pos rfl] at hi ⊢
     unfold fX
     rw [if_pos (fw hi)]; rfl
   . rw [if_neg h1] at hi ⊢
     by_cases h2:n=2
     . subst h2
       rw [if_pos rfl] at hi ⊢
       have hw:∀ v,bj L i v=(((aC ow).1 == 3 || (aC ow).1 == 4) && (aC ow).2 == v):=fun v=>dU hi
       have c1:bj L i sO=false:=hw _
       unfold fX
       rw [if_neg (by simp [c1]),if_pos (fw hi)]; rfl
     . rw [if_neg h2] at hi ⊢
       have hw:∀ v,bj L i v=(((aC ku).1 == 3 || (aC ku).1 == 4) && (aC ku).2 == v):=fun v=>dU hi
       have c1:bj L i sO=false:=hw _
       have c2:bj L i ow=false:=hw _
       have c3:bj L i jH=false:=hw _
       unfold fX
       rw [if_neg (by simp [c1]),if_neg (by simp [c2]),if_neg (by simp [c3]),dj hi,aU,qz hn hi.tail,aU]; rfl
 . rw [if_neg (by decide)] at hi ⊢
   have hw:∀ v,bj L i v=(((aC jH).1 == 3 || (aC jH).1 == 4) && (aC jH).2 == v):=fun v=>dU hi
   have c1:bj L i sO=false:=hw _
   have c2:bj L i ow=false:=hw _
   unfold fX
   rw [if_neg (by simp [c1]),if_neg (by simp [c2]),if_pos (fw hi),qz hn hi.tail,aU]; rfl
theorem Px {k n:Int} {f:Nat} (hk:k=6\/k=7) (hn:dH n=true):jQ L (fun i=>jD L E f i) (Am k n) (node k [] n 0 a []):=by
 intro i hi
 obtain ⟨ns,h1,h2⟩:=Kv (E:=E) (a:=a) hk hn i hi
 have h2:fX L E i=_:=h2
 refine ⟨ns,h1,?_⟩
 show jD L E f i=_
 have hc:bj L i cP=false:=by
  unfold Am at hi
  rcases hk with rfl | rfl
  . rw [if_pos rfl] at hi
    split at hi
    . rw [dU hi]; rfl
    . split at hi
      . rw [dU hi]; rfl
      . rw [dU hi]; rfl
  . rw [if_neg (by decide)] at hi
    rw [dU hi]; rfl
 unfold jD
 rw [if_neg (by simp [hc])]
 exact h2
theorem MS {p:Pt} {P:List Pt} {f:Nat} (hf:L.length < f) (hP:∀ q ∈ p::P,jQ L (fun i=>fX L E i) q.1 q.2) (g:jQ L (fun i=>fX L E i) l T):jQ L (fun i=>jD L E f i) (aC cP::(dz cV ((p::P).map Prod.fst)++aC cC::aC fO::l)) (node 8 [] 0 0 a (Pt.all (p::P)++T)):=by
 intro i hi
 obtain ⟨n0,b0,p0,q0⟩:=zS (f:=f) hP hi.tail (by omega)
 obtain ⟨n1,b1,p1⟩:=g _ q0.tail.tail
 have p1:fX L E _=.ok n1 _:=p1
 refine ⟨node 8 [] 0 0 (de L E i) (n0++n1),eN (gD b0 b1),?_⟩
 show jD L E f i=_
 unfold jD
 rw [if_pos (fw hi)]
 have p0:jT L (fX L E) f (i+1)=_:=p0
 rw [p0,aU,dj q0,aU,dj q0.tail,aU,p1,aU]
 exact FU (by simp; omega)
theorem UC {x:aK} {f:Nat} (g:jQ L (fun i=>jD L E f i) l T):jQ L (fun i=>j9 L E f i) (eF x::aC ez::l) (node 5 x 0 0 a T):=by
 intro i hi
 obtain ⟨n1,b1,p1⟩:=g _ hi.tail.tail
 have p1:jD L E f _=.ok n1 _:=p1
 refine ⟨node 5 x 0 0 (de L E i) n1,eN b1,?_⟩
 show j9 L E f i=_
 unfold j9
 rw [kG hi,aU,dj hi.tail,aU,p1,aU]
 exact FU (by simp; omega)
theorem XJ {x:aK}:jQ L (fun i=>lX L E i) [eF x] (node 37 x 0 0 a []):=by
 intro i hi
 refine ⟨node 37 x 0 0 (de L E i) [],eN rfl,?_⟩
 show lX L E i=_
 unfold lX
 rw [kG hi,aU]; rfl
theorem aap {p:Pt} {P:List Pt} (hP:∀ q ∈ p::P,jQ L (fun i=>lX L E i) q.1 q.2) (g:dT L E l T):xi L E (aC rR::aC cP::(dz cV ((p::P).map Prod.fst)++aC cC::l)) (node 35 [] 0 0 a (Pt.all (p::P)++T)):=by
 intro i hi hf f kV
 have:=hi.lt
 have:=hi.tail.lt
 obtain ⟨f,rfl⟩:∃ g,f=g+1:=⟨f - 1,by omega⟩
 obtain ⟨n0,b0,p0,q0⟩:=zS (f:=L.length+1) hP hi.tail.tail (by omega)
 have:=q0.lt
 have hj:i+(aC rR::aC cP::(dz cV ((p::P).map Prod.fst)++aC cC::l)).length=i+1+1+(dz cV ((p::P).map Prod.fst)).length+1+l.length:=by simp; omega
 rw [hj] at hf ⊢
 obtain ⟨n1,b1,p1⟩:=g _ q0.tail hf.1 f (by omega)
 have p1:bD L E f _=.ok n1 _:=p1
 have p0:jT L (lX L E) (L.length+1) (i+1+1)=_:=p0
 refine ⟨node 35 [] 0 0 (de L E i) (n0++n1),eN (gD b0 b1),?_⟩
 show jy L E (f+1) i=_
 rw [jy,if_pos (fw hi),dj hi.tail,aU,p0,aU,dj q0,aU,p1,aU]
theorem LS (g0:dT L E l0 T0) (g1:jQ L (fun i=>lX L E i) l1 T1) (g2:dT L E l2 T2):xi L E (aC mO::aC yq::(l0++aC cH::aC yr::(l1++aC vw::(l2++[aC rQ])))) (node 36 [] 0 0 a (T0++T1++T2)):=by
 intro i hi hf f kV
 have:=hi.lt
 have:=hi.tail.lt
 obtain ⟨f,rfl⟩:∃ g,f=g+1:=⟨f - 1,by omega⟩
 obtain ⟨n0,b0,p0,q0⟩:=g0.go hi.tail.tail (w:=cH) (f:=f) (by decide) (by omega)
 have:=q0.lt
 have:=q0.tail.lt
 have h1:=q0.tail.tail
 obtain ⟨n1,b1,p1⟩:=g1 _ h1.app.1
 have p1:lX L E _=.ok n1 _:=p1
 have h2:=h1.app.2
 have:=h2.lt
 obtain ⟨n2,b2,p2,q2⟩:=g2.go h2.tail (w:=rQ) (f:=f) (by decide) (by omega)
 have hw:∀ v,bj L i v=(((aC mO).1 == 3 || (aC mO).1 == 4) && (aC mO).2 == v):=fun v=>dU hi
 have c1:bj L i rR=false:=hw _
 refine ⟨node 36 [] 0 0 (de L E i) (n0++n1++n2),eN (gD (gD b0 b1) b2),?_⟩
 show jy L E (f+1) i=_
 rw [jy,if_neg (by simp [c1]),if_pos (fw hi),dj hi.tail,aU,p0,aU,dj q0,aU,dj q0.tail,aU,p1,aU,dj h2,aU,p2,aU,dj q2,aU]
 exact FU (by simp; omega)
def GW (L:List Tk) (E:Nat) (l:List Tx) (T:List Nd):Prop:=∀ i,At L i l->(i+l.length=L.length\/tj L (i+l.length)=true)->∀ f,40 * (L.length - i)+11 <= f->L.length < f->∃ ns,bz ns=bz T/\mL L E f i=.ok ns (i+l.length)
theorem J3 {x:aK} (g:∀ f,L.length < f->jQ L (fun i=>jD L E f i) l T):GW L E (aC dI::eF x::aC ez::(l++[aC cH])) (node 2 x 0 0 a T):=by
 intro i hi ep f hf km
 have h1:=hi.tail.tail.tail
 obtain ⟨n1,b1,p1⟩:=g f km _ h1.app.1
 have p1:jD L E f _=.ok n1 _:=p1
 refine ⟨node 2 x 0 0 (de L E i) n1,eN b1,?_⟩
 unfold mL
 rw [if_pos (fw hi),kG hi.tail,aU,dj hi.tail.tail,aU,p1,aU,dj h1.app.2,aU]
 exact FU (by simp; omega)
theorem Uj {k:Int} {x:aK} {ps:List Pt} (hk:k=3\/k=4) (hP:∀ f,L.length < f->∀ q ∈ ps,jQ L (fun i=>j9 L E f i) q.1 q.2/\∃ c r,q.1=eF c::r) (g1:jQ L (fun i=>fX L E i) l1 T1) (g2:yW L E l2 T2) :
 GW L E (aC (if k=3 then ga else eg)::eF x::aC cP::(dz cV (ps.map Prod.fst)++aC cC::aC ez::(l1++aC gY::(l2++[aC cH])))) (node k x 0 0 a (Pt.all ps++T1++T2)):=by
 intro i hi ep f hf km
 have:=hi.lt
 have h1:=hi.tail
 have h2:=h1.tail
 have h3:=h2.tail
 have tA:∃ n0,bz n0=bz (Pt.all ps)/\(if bj L (i+1+1+1) cC=true then .ok [] (i+1+1+1) else jT L (j9 L E f) f (i+1+1+1))=(.ok n0 (i+1+1+1+(dz cV (ps.map Prod.fst)).length):PR (List Nd)):=by
  cases ps with
  | nil =>
    have h3:At L (i+1+1+1) (aC cC::_):=h3
    exact ⟨[],rfl,by rw [if_pos (fw h3)]; rfl⟩
  | cons p ps =>
    obtain ⟨n0,b0,p0,q0⟩:=zS (f:=f) (fun q hq=>(hP f km q hq).1) h3 (by omega)
    obtain ⟨c,r',hc⟩:=(hP f km p (by simp)).2
    have h3:=h3.app.1
    rw [Pt.Dw,hc] at h3
    have h3:At L (i+1+1+1) (eF c::_):=h3
    exact ⟨n0,b0,by rw [if_neg (by simp [GJ h3])]; exact p0⟩
 obtain ⟨n0,b0,p0⟩:=tA
 have h4:=h3.app.2
 have:=h4.lt
 have h5:=h4.tail
 have h6:=h5.tail
 obtain ⟨n1,b1,p1⟩:=g1 _ h6.app.1
 have p1:fX L E _=.ok n1 _:=p1
 have h7:=h6.app.2
 have:=h7.lt
 have h8:=h7.tail
 have h9:=h8.app.2
 have hj:i+(aC (if k=3 then ga else eg)::eF x::aC cP::(dz cV (ps.map Prod.fst)++aC cC::aC ez::(l1++aC gY::(l2++[aC cH])))).length=i+1+1+1+(dz cV (ps.map Prod.fst)).length+1+1+l1.length+1+l2.length+1:=by simp; omega
 rw [hj] at ep ⊢
 obtain ⟨n2,b2,p2⟩:=g2 _ h8.app.1 ⟨wm (w:=cH) (by decide) h9,fun h=>by
  rcases ep with e | e
  . omega
  . rw [e] at h; cases h.2.2⟩ f (by omega)
 have p2:ia L E f _=.ok n2 _:=p2
 refine ⟨node k x 0 0 (de L E i) (n0++n1++n2),eN (gD (gD b0 b1) b2),?_⟩
 have V4:∃ kk,kk=k/\(if bj L i ga=true then .ok 3 (i+1) else (bL L eg i).bind fun _ j=>.ok 4 j:PR Int)=.ok kk (i+1)/\bj L i dI=false:=by
  rcases hk with rfl | rfl
  . have hi:At L i (aC ga::_):=hi
    exact ⟨3,rfl,by rw [if_pos (fw hi)],by rw [dU hi]; rfl⟩
  . have hi:At L i (aC eg::_):=hi
    have c1:bj L i ga=false:=by rw [dU hi]; rfl
    exact ⟨4,rfl,by rw [if_neg (by simp [c1]),dj hi,aU],by rw [dU hi]; rfl⟩
 obtain ⟨kk,rfl,qN,gl⟩:=V4
 unfold mL
 rw [if_neg (by simp [gl]),qN,aU,kG h1,aU,dj h2,aU,p0,aU,dj h4,aU,dj h5,aU,p1,aU,dj h7,aU,p2,aU,dj h9,aU]
end
end Go.Rip
