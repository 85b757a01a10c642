/- Lemmas for the proof: no conditions. -/
import Derived.Test.YtnfpmiiopiinbaaGreatDoorRipZz
import Derived.Test.YtnfpmiiopiinbaaGreatDoorRipC
import Derived.Test.YtnfpmiiopiinbaaGreatDoorRipD
import Derived.Test.YtnfpmiiopiinbaaGreatDoorRipI
set_option linter.unusedVariables false
set_option linter.unusedSimpArgs false
set_option linter.loopingSimpArgs false
namespace Go.Rip
open Go.RowKit
section
variable {U ad aP aZ:St} {b b' r:Nat} {x y:Live} {l l' L:List AV}
theorem cR:(U.set b x).live b'=if b'=b then some x else U.live b':=rfl
theorem kH:(U.new b x).live b'=if b'=b then some x else U.live b':=rfl
theorem jd:(U.del b).live b'=if b'=b then none else U.live b':=rfl
theorem aW:(U.set b (.box l)).box b=some l:=by simp [St.box,cR]
theorem aK:(U.new b (.box l)).box b=some l:=by simp [St.box,kH]
theorem aN (h:b' ≠ b):(U.set b x).box b'=U.box b':=by simp [St.box,cR,h]
theorem pj (h:b' ≠ b):(U.new b x).box b'=U.box b':=by simp [St.box,kH,h]
theorem eM (h:b' ≠ b):(U.del b).box b'=U.box b':=by simp [St.box,jd,h]
theorem BQ {t:Tok}:(U.new b (.tok t)).tok b=some t:=by simp [St.tok,kH]
theorem fx (h:b' ≠ b):(U.set b x).tok b'=U.tok b':=by simp [St.tok,cR,h]
theorem KZ (h:b' ≠ b):(U.del b).tok b'=U.tok b':=by simp [St.tok,jd,h]
theorem bG (h:U.box b=some l):U.live b ≠ none:=by
 intro e; simp [St.box,e] at h
theorem PX {t:Tok} (h:U.tok b=some t):U.live b ≠ none:=by
 intro e; simp [St.tok,e] at h
theorem dL {t:Tok} (h:U.box b=some l) (k:U.tok b'=some t):b ≠ b':=by
 rintro rfl
 unfold St.box at h; unfold St.tok at k
 split at k
 . rename_i e; simp [e] at h
 . cases k
theorem St.cY.bK (h:U.cY b) (k:U.box b'=some l):b' ≠ b:=by
 rintro rfl; exact bG k h.1
theorem dP (h:ad.live b=U.live b):ad.box b=U.box b:=by simp [St.box,h]
theorem jB (h:ad.live b=U.live b):ad.tok b=U.tok b:=by simp [St.tok,h]
def jk (r:Nat) (U ad:St):Prop:=∀ b x,b ≠ r->U.live b=some x->ad.live b=some x
def cN (U ad:St):Prop:=∀ b x,U.live b=some x->ad.live b=some x
theorem cN.refl (U:St):cN U U:=fun _ _ h=>h
theorem cN.trans (h:cN U aP) (k:cN aP aZ):cN U aZ:=fun b x e=>k b x (h b x e)
theorem jk.refl (r:Nat) (U:St):jk r U U:=fun _ _ _ h=>h
theorem jk.trans (h:jk r U aP) (k:jk r aP aZ):jk r U aZ:=fun b x n e=>k b x n (h b x n e)
theorem cN.LN (h:cN U ad):jk r U ad:=fun b x _ e=>h b x e
theorem jk.aS (h:jk r U ad) (n:b ≠ r) (k:U.box b=some l):ad.box b=some l:=by
 cases e:U.live b with
 | none=>simp [St.box,e] at k
 | some x=>rw [dP ((h b x n e).trans e.symm)]; exact k
theorem jk.tok (h:jk r U ad) {t:Tok} (n:b ≠ r) (k:U.tok b=some t):ad.tok b=some t:=by
 cases e:U.live b with
 | none=>simp [St.tok,e] at k
 | some x=>rw [jB ((h b x n e).trans e.symm)]; exact k
theorem cN.aS (h:cN U ad) (k:U.box b=some l):ad.box b=some l:=by
 cases e:U.live b with
 | none=>simp [St.box,e] at k
 | some x=>rw [dP ((h b x e).trans e.symm)]; exact k
theorem cN.tok (h:cN U ad) {t:Tok} (k:U.tok b=some t):ad.tok b=some t:=by
 cases e:U.live b with
 | none=>simp [St.tok,e] at k
 | some x=>rw [jB ((h b x e).trans e.symm)]; exact k
theorem a7 (h:U.cY b):cN U (U.new b x):=fun c y e=>by
 rw [kH]; split
 . rename_i n; subst n; rw [h.1] at e; cases e
 . exact e
theorem jk.set (h:jk r U ad) (n:U.live b=none\/b=r):jk r U (ad.set b x):=fun c y m e=>by
 rw [cR]; split
 . rename_i k; subst k
   rcases n with n | n
   . rw [n] at e; cases e
   . exact absurd n m
 . exact h c y m e
theorem cN.set (h:cN U ad) (n:U.live b=none):cN U (ad.set b x):=fun c y e=>by
 rw [cR]; split
 . rename_i k; subst k; rw [n] at e; cases e
 . exact h c y e
theorem jk.del (h:jk r U ad) (n:U.live b=none\/b=r):jk r U (ad.del b):=fun c y m e=>by
 rw [jd]; split
 . rename_i k; subst k
   rcases n with n | n
   . rw [n] at e; cases e
   . exact absurd n m
 . exact h c y m e
theorem cN.del (h:cN U ad) (n:U.live b=none):cN U (ad.del b):=fun c y e=>by
 rw [jd]; split
 . rename_i k; subst k; rw [n] at e; cases e
 . exact h c y e
theorem jk.new (h:jk r U ad) (n:ad.cY b):jk r U (ad.new b x):=h.trans (a7 n).LN
theorem cN.new (h:cN U ad) (n:ad.cY b):cN U (ad.new b x):=h.trans (a7 n)
theorem cN.fresh (h:cN U ad) (n:ad.live b=none):U.live b=none:=by
 cases e:U.live b with
 | none=>rfl
 | some x=>rw [h b x e] at n; cases n
theorem jk.fresh (h:jk r U ad) (m:b ≠ r) (n:ad.live b=none):U.live b=none:=by
 cases e:U.live b with
 | none=>rfl
 | some x=>rw [h b x m e] at n; cases n
structure fH (r:Nat) (l:List AV) (U ad:St):Prop where
 box:ad.box r=some l
 ex:jk r U ad
theorem fH.trans (h:fH r l U aP) (k:fH r l' aP aZ):fH r l' U aZ:=⟨k.box,h.ex.trans k.ex⟩
theorem fH.kr (h:U.box r=some l) (k:cN U ad):fH r l U ad:=⟨k.aS h,k.LN⟩
end
section
variable {U:St} {b o n:Nat} {L:List AV} {v:AV}
theorem ld (h:U.box b=some L) (n o:Nat):ah (some (false,n)) (.box b o) U=gJ (L.drop o):=sn h n o
theorem MS (h:U.box b=some L) (n o:Nat):ah (some (true,n)) (.box b o) U=.cond (n <= (L.drop o).length) (.val (.agg ((L.drop o).take n))):=MY h n o
theorem yn (h:U.box b=some L) (t:Bool) (n o:Nat) (v:AV):aJ (some (t,n)) (.box b o) v U=.cond (v.cQ=true/\(au v).length=n/\o+n <= L.length) (.gx (.aF []) b (.box (aB L o (au v)))):=lB h t n o v
end
@[simp] theorem Ku {vt:Option (Bool × Nat)} {p v:AV} {U:St} {k:AV->Prop} (h:ah vt p U=.val v):br vt p U k=k v:=by simp [br,h]
theorem tV {vt:Option (Bool × Nat)} {p v:AV} {U:St} {k:AV->Prop} {q:Prop} [Decidable q] (h:ah vt p U=.cond q (.val v)):br vt p U k=(q/\k v):=by simp [br,h]
section
variable {C:cq} {U τ:St} {K:AV->St->Prop} {Kp:AV->St->Prop} {k:AV->Prop} {b o n sz e:Nat} {t:Bool} {L:List AV} {v:AV}
theorem cX (h:U.box b=some L):(aJ (some (t,n)) (.box b o) v U).wp C U K Kp=((v.cQ=true/\(au v).length=n/\o+n <= L.length)/\K (.aF []) (U.set b (.box (aB L o (au v))))):=by
 rw [yn h]; rfl
theorem fW (h:U.box b=some L):(ah (some (false,n)) (.box b o) U).wp C τ K Kp=(gJ (L.drop o)).wp C τ K Kp:=by rw [ld h]
theorem pI (h:U.box b=some L):ax C (ah (some (false,n)) (.box b o) U) k=ax C (gJ (L.drop o)) k:=by rw [ld h]
theorem pQ (h:U.box b=some L):(ah (some (true,n)) (.box b o) U).wp C τ K Kp=(n <= (L.drop o).length/\K (.agg ((L.drop o).take n)) τ):=by rw [MS h]; rfl
theorem wa (h:U.box b=some L):ax C (ah (some (true,n)) (.box b o) U) k=(n <= (L.drop o).length/\k (.agg ((L.drop o).take n))):=by rw [MS h]; rfl
theorem BB (h:U.box b=some L):br (some (true,n)) (.box b o) U k=(n <= (L.drop o).length/\k (.agg ((L.drop o).take n))):=by rw [tV (MS h n o)]
theorem qh {x:AV} {l:List AV} (h:U.box b=some L) (hd:L.drop o=x::l):br (some (false,n)) (.box b o) U k=k x:=by
 rw [Ku]; rw [ld h,hd]; rfl
theorem bE {x:AV} {l:List AV}:(gJ (x::l)).wp C U K Kp=K x U:=rfl
theorem fi {x:AV} {l:List AV}:ax C (gJ (x::l)) k=k x:=rfl
theorem oB:(ah (some (false,n)) (.cn L) U).wp C τ K Kp=(gJ L).wp C τ K Kp:=rfl
theorem l9:ax C (ah (some (false,n)) (.cn L) U) k=ax C (gJ L) k:=rfl
theorem vb:(ah (some (true,n)) (.cn L) U).wp C τ K Kp=(n <= L.length/\K (.agg (L.take n)) τ):=rfl
theorem Jb:ax C (ah (some (true,n)) (.cn L) U) k=(n <= L.length/\k (.agg (L.take n))):=rfl
theorem dr {bt:BT} {l:Bool} {x y:Int}:(ar .add bt l (.int .i64 x) (.int .i64 y)).wp C U K Kp=(uo (x+y)/\K (.int .i64 (x+y)) U):=by simp only [kF,fl]; rfl
theorem KI {bt:BT} {l:Bool} {x y:Int}:ax C (ar .add bt l (.int .i64 x) (.int .i64 y)) k=(uo (x+y)/\k (.int .i64 (x+y))):=by simp only [kF,fl]; rfl
theorem EJ {bt:BT} {l:Bool} {x y:Int}:(ar .sub bt l (.int .i64 x) (.int .i64 y)).wp C U K Kp=(uo (x - y)/\K (.int .i64 (x - y)) U):=by simp only [iy,fl]; rfl
theorem abD {bt:BT} {l:Bool} {x y:Int}:ax C (ar .sub bt l (.int .i64 x) (.int .i64 y)) k=(uo (x - y)/\k (.int .i64 (x - y))):=by simp only [iy,fl]; rfl
theorem aco {bt:BT} {l:Bool} {x y:Int}:(ar .mul bt l (.int .i64 x) (.int .i64 y)).wp C U K Kp=(uo (x * y)/\K (.int .i64 (x * y)) U):=by simp only [Hn,fl]; rfl
theorem Lg {bt:BT} {l:Bool} {x y:List UInt8}:(ar .add bt l (.str x) (.str y)).wp C U K Kp=(x.length+y.length <= 4294967296/\K (.str (x++y)) U):=rfl
theorem CU {at_:Option (Nat × TypeId × Nat)} {c:j9} {i:IntKind} {j:Int}:(aG (some (e,sz)) at_ (.vec n c L) (.int i j)).wp C U K Kp=((0 <= j/\j < n)/\K (.cn (L.drop (j.toNat * sz))) U):=rfl
theorem KJ {at_:Option (Nat × TypeId × Nat)} {c:j9} {i:IntKind} {j:Int}:ax C (aG (some (e,sz)) at_ (.vec n c L) (.int i j)) k=((0 <= j/\j < n)/\k (.cn (L.drop (j.toNat * sz)))):=rfl
theorem EI {at_:Option (Nat × TypeId × Nat)} {i:IntKind} {j:Int} {z u:Nat}:(aG (some (e,sz)) at_ (.ms b o n z u) (.int i j)).wp C U K Kp=((0 <= j/\j < n/\z=sz)/\K (.box b (o+j.toNat * sz)) U):=rfl
theorem KK {at_:Option (Nat × TypeId × Nat)} {i:IntKind} {j:Int} {z u:Nat}:ax C (aG (some (e,sz)) at_ (.ms b o n z u) (.int i j)) k=((0 <= j/\j < n/\z=sz)/\k (.box b (o+j.toNat * sz))):=rfl
theorem yY {at_:Option (Nat × TypeId × Nat)} {vt:Option (Bool × Nat)} {s:List UInt8} {i:IntKind} {j:Int}:(gj true at_ vt (.str s) (.int i j)).wp C U K Kp=((0 <= j/\j < s.length)/\K (.int .u8 (s.getD j.toNat 0).toNat) U):=by rw [Du]; rfl
theorem Ey {at_:Option (Nat × TypeId × Nat)} {vt:Option (Bool × Nat)} {s:List UInt8} {i:IntKind} {j:Int}:ax C (gj true at_ vt (.str s) (.int i j)) k=((0 <= j/\j < s.length)/\k (.int .u8 (s.getD j.toNat 0).toNat)):=by rw [Du]; rfl
theorem er (h:v.cQ=true):(dT v).wp C U K Kp=∀ b,U.cY b->K (.box b 0) (U.new b (.box (au v))):=by
 rw [C2 _ h]; simp only [wp_cond,true_and]; rfl
theorem cS:(aD.cP L).wp C U K Kp=∀ b,U.cY b->K (.box b 0) (U.new b (.box L)):=rfl
theorem fN {z:List AV} {ps:List (Nat × AV)}:(aq (some (e,sz)) (some z) n false ps).wp C U K Kp=(n * sz <= 16777216/\(fm (fun i=>some (i * sz,sz)) ps (bF n z) fun cs=>.cond (cs.length=n * sz) (.val (.vec n .full cs))).wp C U K Kp):=by
 simp only [aq,bJ,if_false]; rfl
theorem vZ {z:List AV} {ps:List (Nat × AV)}:ax C (aq (some (e,sz)) (some z) n false ps) k=(n * sz <= 16777216/\ax C (fm (fun i=>some (i * sz,sz)) ps (bF n z) fun cs=>.cond (cs.length=n * sz) (.val (.vec n .full cs))) k):=by
 simp only [aq,bJ,if_false]; rfl
theorem ek {pl:Nat->Option (Nat × Nat)} {i s:Nat} {x:AV} {rest:List (Nat × AV)} {f:List AV->aD} (h:pl i=some (o,s)):(fm pl ((i,x)::rest) L f).wp C U K Kp=((x.cQ=true/\(au x).length=s/\o+s <= L.length)/\(fm pl rest (aB L o (au x)) f).wp C U K Kp):=by
 simp only [fm,h]; rfl
theorem sB {pl:Nat->Option (Nat × Nat)} {i s:Nat} {x:AV} {rest:List (Nat × AV)} {f:List AV->aD} (h:pl i=some (o,s)):ax C (fm pl ((i,x)::rest) L f) k=((x.cQ=true/\(au x).length=s/\o+s <= L.length)/\ax C (fm pl rest (aB L o (au x)) f) k):=by
 simp only [fm,h]; rfl
theorem VD {pl:Nat->Option (Nat × Nat)}:(fm pl [] L fun z=>.val (.agg z)).wp C U K Kp=K (.agg L) U:=rfl
theorem gI {pl:Nat->Option (Nat × Nat)} {m:Nat}:(fm pl [] L fun cs=>.cond (cs.length=m) (.val (.vec n .full cs))).wp C U K Kp=(L.length=m/\K (.vec n .full L) U):=rfl
theorem yQ {pl:Nat->Option (Nat × Nat)} {m:Nat}:ax C (fm pl [] L fun cs=>.cond (cs.length=m) (.val (.vec n .full cs))) k=(L.length=m/\k (.vec n .full L)):=rfl
def tN:List (Nat × Nat)->List (Nat × AV)->List AV->Option (List AV)
 | _,[],z=>some z
 | pl,(i,x)::rest,z=>match pl[i]? with
   | some (o,s)=>if x.cQ=true/\(au x).length=s/\o+s <= z.length then tN pl rest (aB z o (au x)) else none
   | none=>none
theorem C1:∀ {pl:List (Nat × Nat)} {ps:List (Nat × AV)} {z zs:List AV},tN pl ps z=some zs->K (.agg zs) U->(fm (fun i=>pl[i]?) ps z fun z=>.val (.agg z)).wp C U K Kp
 | pl,[],z,zs,h,hk=>by cases h; exact hk
 | pl,(i,x)::rest,z,zs,h,hk=>by
   simp only [tN] at h
   split at h
   . rename_i o s e
     split at h
     . rename_i hc; rw [ek e]; exact ⟨hc,C1 h hk⟩
     . cases h
   . cases h
theorem AF:∀ {pl:List (Nat × Nat)} {ps:List (Nat × AV)} {z zs:List AV},tN pl ps z=some zs->k (.agg zs)->ax C (fm (fun i=>pl[i]?) ps z fun z=>.val (.agg z)) k
 | pl,[],z,zs,h,hk=>by cases h; exact hk
 | pl,(i,x)::rest,z,zs,h,hk=>by
   simp only [tN] at h
   split at h
   . rename_i o s e
     split at h
     . rename_i hc; rw [sB e]; exact ⟨hc,AF h hk⟩
     . cases h
   . cases h
theorem qA {pl:List (Nat × Nat)} {at_:Option (Nat × TypeId × Nat)} {ps:List (Nat × AV)} (zs:List AV) (h:tN pl ps L=some zs) (hk:K (.agg zs) U):(eh (some pl) (some L) at_ ps).wp C U K Kp:=C1 h hk
theorem Xe {pl:List (Nat × Nat)} {at_:Option (Nat × TypeId × Nat)} {ps:List (Nat × AV)} (zs:List AV) (h:tN pl ps L=some zs) (hk:k (.agg zs)):ax C (eh (some pl) (some L) at_ ps) k:=AF h hk
end
def oy (t:Tk):List AV:=[.int .u8 t.k,.str t.s,.int .i64 t.at_]
def il (L:List Tk):List AV:=L.flatMap oy
def dA (v:AV) (n:Nat) (cs:List AV):Prop:=(n=0/\cs=[]/\v=.aw)\/∃ c,v=.vec n c cs
theorem PV (L:List Tk) (i:Nat):(il L).drop (i * 3)=il (L.drop i):=by
 induction L generalizing i with
 | nil=>simp [il]
 | cons t L ih =>
   cases i with
   | zero=>simp
   | succ i =>
     rw [Nat.add_mul,show i * 3+1 * 3=3+i * 3 by omega,<- List.drop_drop,List.drop_succ_cons,<- ih]
     rfl
theorem CO {L:List Tk} {i:Nat} {t:Tk} (h:L[i]?=some t):∃ r,(il L).drop (i * 3)=oy t++r:=by
 rw [PV,gl (c8.1 h).1]
 refine ⟨il (L.drop (i+1)),?_⟩
 have:=(c8.1 h).2
 simp [il,this]
end Go.Rip
