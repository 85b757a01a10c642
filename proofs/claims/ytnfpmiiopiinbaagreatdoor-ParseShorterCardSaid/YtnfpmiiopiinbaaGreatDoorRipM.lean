/- Lemmas for the proof: no conditions. -/
import Derived.Test.YtnfpmiiopiinbaaGreatDoorRipZz
import Derived.Test.YtnfpmiiopiinbaaGreatDoorRipC
import Derived.Test.YtnfpmiiopiinbaaGreatDoorRipD
import Derived.Test.YtnfpmiiopiinbaaGreatDoorRipI
set_option linter.unusedVariables false
set_option linter.unusedSimpArgs false
set_option linter.loopingSimpArgs false
namespace Go.Rip
open Go.RowKit
section
variable {U ad aR bh:St} {b b' r:Nat} {x y:Live} {l l' L:List AV}
theorem dQ:(U.set b x).live b'=if b'=b then some x else U.live b':=rfl
theorem mM:(U.new b x).live b'=if b'=b then some x else U.live b':=rfl
theorem kJ:(U.del b).live b'=if b'=b then none else U.live b':=rfl
theorem a7:(U.set b (.box l)).box b=some l:=by simp [St.box,dQ]
theorem aK:(U.new b (.box l)).box b=some l:=by simp [St.box,mM]
theorem aY (h:b' ≠ b):(U.set b x).box b'=U.box b':=by simp [St.box,dQ,h]
theorem pB (h:b' ≠ b):(U.new b x).box b'=U.box b':=by simp [St.box,mM,h]
theorem jr (h:b' ≠ b):(U.del b).box b'=U.box b':=by simp [St.box,kJ,h]
theorem DR {t:Tok}:(U.new b (.tok t)).tok b=some t:=by simp [St.tok,mM]
theorem gY (h:b' ≠ b):(U.set b x).tok b'=U.tok b':=by simp [St.tok,dQ,h]
theorem cD (h:U.box b=some l):U.live b ≠ none:=by
 intro e; simp [St.box,e] at h
theorem eZ {t:Tok} (h:U.box b=some l) (k:U.tok b'=some t):b ≠ b':=by
 rintro rfl
 unfold St.box at h; unfold St.tok at k
 split at k
 . rename_i e; simp [e] at h
 . cases k
theorem St.dA.bX (h:U.dA b) (k:U.box b'=some l):b' ≠ b:=by
 rintro rfl; exact cD k h.1
theorem dD (h:ad.live b=U.live b):ad.box b=U.box b:=by simp [St.box,h]
theorem mT (h:ad.live b=U.live b):ad.tok b=U.tok b:=by simp [St.tok,h]
def lj (r:Nat) (U ad:St):Prop:=∀ b x,b ≠ r->U.live b=some x->ad.live b=some x
def dm (U ad:St):Prop:=∀ b x,U.live b=some x->ad.live b=some x
theorem dm.refl (U:St):dm U U:=fun _ _ h=>h
theorem dm.trans (h:dm U aR) (k:dm aR bh):dm U bh:=fun b x e=>k b x (h b x e)
theorem lj.refl (r:Nat) (U:St):lj r U U:=fun _ _ _ h=>h
theorem lj.trans (h:lj r U aR) (k:lj r aR bh):lj r U bh:=fun b x n e=>k b x n (h b x n e)
theorem dm.HN (h:dm U ad):lj r U ad:=fun b x _ e=>h b x e
theorem lj.bg (h:lj r U ad) (n:b ≠ r) (k:U.box b=some l):ad.box b=some l:=by
 cases e:U.live b with
 | none=>simp [St.box,e] at k
 | some x=>rw [dD ((h b x n e).trans e.symm)]; exact k
theorem lj.tok (h:lj r U ad) {t:Tok} (n:b ≠ r) (k:U.tok b=some t):ad.tok b=some t:=by
 cases e:U.live b with
 | none=>simp [St.tok,e] at k
 | some x=>rw [mT ((h b x n e).trans e.symm)]; exact k
theorem dm.bg (h:dm U ad) (k:U.box b=some l):ad.box b=some l:=by
 cases e:U.live b with
 | none=>simp [St.box,e] at k
 | some x=>rw [dD ((h b x e).trans e.symm)]; exact k
theorem dm.tok (h:dm U ad) {t:Tok} (k:U.tok b=some t):ad.tok b=some t:=by
 cases e:U.live b with
 | none=>simp [St.tok,e] at k
 | some x=>rw [mT ((h b x e).trans e.symm)]; exact k
theorem bB (h:U.dA b):dm U (U.new b x):=fun c y e=>by
 rw [mM]; split
 . rename_i n; subst n; rw [h.1] at e; cases e
 . exact e
theorem lj.set (h:lj r U ad) (n:U.live b=none\/b=r):lj r U (ad.set b x):=fun c y m e=>by
 rw [dQ]; split
 . rename_i k; subst k
   rcases n with n | n
   . rw [n] at e; cases e
   . exact absurd n m
 . exact h c y m e
theorem dm.set (h:dm U ad) (n:U.live b=none):dm U (ad.set b x):=fun c y e=>by
 rw [dQ]; split
 . rename_i k; subst k; rw [n] at e; cases e
 . exact h c y e
theorem lj.del (h:lj r U ad) (n:U.live b=none\/b=r):lj r U (ad.del b):=fun c y m e=>by
 rw [kJ]; split
 . rename_i k; subst k
   rcases n with n | n
   . rw [n] at e; cases e
   . exact absurd n m
 . exact h c y m e
theorem dm.del (h:dm U ad) (n:U.live b=none):dm U (ad.del b):=fun c y e=>by
 rw [kJ]; split
 . rename_i k; subst k; rw [n] at e; cases e
 . exact h c y e
theorem lj.new (h:lj r U ad) (n:ad.dA b):lj r U (ad.new b x):=h.trans (bB n).HN
theorem dm.new (h:dm U ad) (n:ad.dA b):dm U (ad.new b x):=h.trans (bB n)
theorem dm.fresh (h:dm U ad) (n:ad.live b=none):U.live b=none:=by
 cases e:U.live b with
 | none=>rfl
 | some x=>rw [h b x e] at n; cases n
theorem lj.fresh (h:lj r U ad) (m:b ≠ r) (n:ad.live b=none):U.live b=none:=by
 cases e:U.live b with
 | none=>rfl
 | some x=>rw [h b x m e] at n; cases n
structure gT (r:Nat) (l:List AV) (U ad:St):Prop where
 box:ad.box r=some l
 ex:lj r U ad
theorem gT.trans (h:gT r l U aR) (k:gT r l' aR bh):gT r l' U bh:=⟨k.box,h.ex.trans k.ex⟩
theorem gT.mW (h:U.box r=some l) (k:dm U ad):gT r l U ad:=⟨k.bg h,k.HN⟩
end
section
variable {U:St} {b o n:Nat} {L:List AV} {v:AV}
theorem ld (h:U.box b=some L) (n o:Nat):ak (some (false,n)) (.box b o) U=jf (L.drop o):=uB h n o
theorem Qe (h:U.box b=some L) (n o:Nat):ak (some (true,n)) (.box b o) U=.cond (n <= (L.drop o).length) (.val (.agg ((L.drop o).take n))):=Qj h n o
theorem Ah (h:U.box b=some L) (t:Bool) (n o:Nat) (v:AV):aI (some (t,n)) (.box b o) v U=.cond (v.dh=true/\(ax v).length=n/\o+n <= L.length) (.jd (.aH []) b (.box (aA L o (ax v)))):=nW h t n o v
end
@[simp] theorem NJ {vt:Option (Bool × Nat)} {p v:AV} {U:St} {k:AV->Prop} (h:ak vt p U=.val v):bF vt p U k=k v:=by simp [bF,h]
theorem vW {vt:Option (Bool × Nat)} {p v:AV} {U:St} {k:AV->Prop} {q:Prop} [Decidable q] (h:ak vt p U=.cond q (.val v)):bF vt p U k=(q/\k v):=by simp [bF,h]
section
variable {C:cS} {U τ:St} {K:AV->St->Prop} {Kp:AV->St->Prop} {k:AV->Prop} {b o n sz e:Nat} {t:Bool} {L:List AV} {v:AV}
theorem dk (h:U.box b=some L):(aI (some (t,n)) (.box b o) v U).wp C U K Kp=((v.dh=true/\(ax v).length=n/\o+n <= L.length)/\K (.aH []) (U.set b (.box (aA L o (ax v))))):=by
 rw [Ah h]; rfl
theorem gM (h:U.box b=some L):(ak (some (false,n)) (.box b o) U).wp C τ K Kp=(jf (L.drop o)).wp C τ K Kp:=by rw [ld h]
theorem su (h:U.box b=some L):aB C (ak (some (false,n)) (.box b o) U) k=aB C (jf (L.drop o)) k:=by rw [ld h]
theorem pc (h:U.box b=some L):(ak (some (true,n)) (.box b o) U).wp C τ K Kp=(n <= (L.drop o).length/\K (.agg ((L.drop o).take n)) τ):=by rw [Qe h]; rfl
theorem G9 (h:U.box b=some L):aB C (ak (some (true,n)) (.box b o) U) k=(n <= (L.drop o).length/\k (.agg ((L.drop o).take n))):=by rw [Qe h]; rfl
theorem vD (h:U.box b=some L):bF (some (true,n)) (.box b o) U k=(n <= (L.drop o).length/\k (.agg ((L.drop o).take n))):=by rw [vW (Qe h n o)]
theorem yo {x:AV} {l:List AV} (h:U.box b=some L) (hd:L.drop o=x::l):bF (some (false,n)) (.box b o) U k=k x:=by
 rw [NJ]; rw [ld h,hd]; rfl
theorem bC {x:AV} {l:List AV}:(jf (x::l)).wp C U K Kp=K x U:=rfl
theorem jQ {x:AV} {l:List AV}:aB C (jf (x::l)) k=k x:=rfl
theorem oH:(ak (some (false,n)) (.cQ L) U).wp C τ K Kp=(jf L).wp C τ K Kp:=rfl
theorem s8:aB C (ak (some (false,n)) (.cQ L) U) k=aB C (jf L) k:=rfl
theorem uc:(ak (some (true,n)) (.cQ L) U).wp C τ K Kp=(n <= L.length/\K (.agg (L.take n)) τ):=rfl
theorem YZ:aB C (ak (some (true,n)) (.cQ L) U) k=(n <= L.length/\k (.agg (L.take n))):=rfl
theorem dO {bt:BT} {l:Bool} {x y:Int}:(aw .add bt l (.int .i64 x) (.int .i64 y)).wp C U K Kp=(wm (x+y)/\K (.int .i64 (x+y)) U):=by simp only [mI,ij]; rfl
theorem N5 {bt:BT} {l:Bool} {x y:Int}:aB C (aw .add bt l (.int .i64 x) (.int .i64 y)) k=(wm (x+y)/\k (.int .i64 (x+y))):=by simp only [mI,ij]; rfl
theorem Hf {bt:BT} {l:Bool} {x y:Int}:(aw .sub bt l (.int .i64 x) (.int .i64 y)).wp C U K Kp=(wm (x - y)/\K (.int .i64 (x - y)) U):=by simp only [mJ,ij]; rfl
theorem Xc {bt:BT} {l:Bool} {x y:Int}:aB C (aw .sub bt l (.int .i64 x) (.int .i64 y)) k=(wm (x - y)/\k (.int .i64 (x - y))):=by simp only [mJ,ij]; rfl
theorem aeQ {bt:BT} {l:Bool} {x y:Int}:(aw .mul bt l (.int .i64 x) (.int .i64 y)).wp C U K Kp=(wm (x * y)/\K (.int .i64 (x * y)) U):=by simp only [J6,ij]; rfl
theorem aeO {bt:BT} {l:Bool} {x y:List UInt8}:(aw .add bt l (.str x) (.str y)).wp C U K Kp=(x.length+y.length <= 4294967296/\K (.str (x++y)) U):=rfl
theorem Cz {at_:Option (Nat × TypeId × Nat)} {c:mg} {i:IntKind} {j:Int}:(aO (some (e,sz)) at_ (.vec n c L) (.int i j)).wp C U K Kp=((0 <= j/\j < n)/\K (.cQ (L.drop (j.toNat * sz))) U):=rfl
theorem afX {at_:Option (Nat × TypeId × Nat)} {c:mg} {i:IntKind} {j:Int}:aB C (aO (some (e,sz)) at_ (.vec n c L) (.int i j)) k=((0 <= j/\j < n)/\k (.cQ (L.drop (j.toNat * sz)))):=rfl
theorem DZ {at_:Option (Nat × TypeId × Nat)} {i:IntKind} {j:Int} {z u:Nat}:(aO (some (e,sz)) at_ (.ms b o n z u) (.int i j)).wp C U K Kp=((0 <= j/\j < n/\z=sz)/\K (.box b (o+j.toNat * sz)) U):=rfl
theorem yE {at_:Option (Nat × TypeId × Nat)} {vt:Option (Bool × Nat)} {s:List UInt8} {i:IntKind} {j:Int}:(hX true at_ vt (.str s) (.int i j)).wp C U K Kp=((0 <= j/\j < s.length)/\K (.int .u8 (s.getD j.toNat 0).toNat) U):=by rw [FF]; rfl
theorem G8 {at_:Option (Nat × TypeId × Nat)} {vt:Option (Bool × Nat)} {s:List UInt8} {i:IntKind} {j:Int}:aB C (hX true at_ vt (.str s) (.int i j)) k=((0 <= j/\j < s.length)/\k (.int .u8 (s.getD j.toNat 0).toNat)):=by rw [FF]; rfl
theorem hU (h:v.dh=true):(fZ v).wp C U K Kp=∀ b,U.dA b->K (.box b 0) (U.new b (.box (ax v))):=by
 rw [Fb _ h]; simp only [wp_cond,true_and]; rfl
theorem cZ:(aC.db L).wp C U K Kp=∀ b,U.dA b->K (.box b 0) (U.new b (.box L)):=rfl
theorem gG {z:List AV} {ps:List (Nat × AV)}:(ar (some (e,sz)) (some z) n false ps).wp C U K Kp=(n * sz <= 16777216/\(gI (fun i=>some (i * sz,sz)) ps (bO n z) fun cs=>.cond (cs.length=n * sz) (.val (.vec n .full cs))).wp C U K Kp):=by
 simp only [ar,bQ,if_false]; rfl
theorem yl {z:List AV} {ps:List (Nat × AV)}:aB C (ar (some (e,sz)) (some z) n false ps) k=(n * sz <= 16777216/\aB C (gI (fun i=>some (i * sz,sz)) ps (bO n z) fun cs=>.cond (cs.length=n * sz) (.val (.vec n .full cs))) k):=by
 simp only [ar,bQ,if_false]; rfl
theorem eJ {pl:Nat->Option (Nat × Nat)} {i s:Nat} {x:AV} {rest:List (Nat × AV)} {f:List AV->aC} (h:pl i=some (o,s)):(gI pl ((i,x)::rest) L f).wp C U K Kp=((x.dh=true/\(ax x).length=s/\o+s <= L.length)/\(gI pl rest (aA L o (ax x)) f).wp C U K Kp):=by
 simp only [gI,h]; rfl
theorem uH {pl:Nat->Option (Nat × Nat)} {i s:Nat} {x:AV} {rest:List (Nat × AV)} {f:List AV->aC} (h:pl i=some (o,s)):aB C (gI pl ((i,x)::rest) L f) k=((x.dh=true/\(ax x).length=s/\o+s <= L.length)/\aB C (gI pl rest (aA L o (ax x)) f) k):=by
 simp only [gI,h]; rfl
theorem Zh {pl:Nat->Option (Nat × Nat)}:(gI pl [] L fun z=>.val (.agg z)).wp C U K Kp=K (.agg L) U:=rfl
theorem ik {pl:Nat->Option (Nat × Nat)} {m:Nat}:(gI pl [] L fun cs=>.cond (cs.length=m) (.val (.vec n .full cs))).wp C U K Kp=(L.length=m/\K (.vec n .full L) U):=rfl
theorem AP {pl:Nat->Option (Nat × Nat)} {m:Nat}:aB C (gI pl [] L fun cs=>.cond (cs.length=m) (.val (.vec n .full cs))) k=(L.length=m/\k (.vec n .full L)):=rfl
def tg:List (Nat × Nat)->List (Nat × AV)->List AV->Option (List AV)
 | _,[],z=>some z
 | pl,(i,x)::rest,z=>match pl[i]? with
   | some (o,s)=>if x.dh=true/\(ax x).length=s/\o+s <= z.length then tg pl rest (aA z o (ax x)) else none
   | none=>none
theorem Fa:∀ {pl:List (Nat × Nat)} {ps:List (Nat × AV)} {z zs:List AV},tg pl ps z=some zs->K (.agg zs) U->(gI (fun i=>pl[i]?) ps z fun z=>.val (.agg z)).wp C U K Kp
 | pl,[],z,zs,h,hk=>by cases h; exact hk
 | pl,(i,x)::rest,z,zs,h,hk=>by
   simp only [tg] at h
   split at h
   . rename_i o s e
     split at h
     . rename_i hc; rw [eJ e]; exact ⟨hc,Fa h hk⟩
     . cases h
   . cases h
theorem CH:∀ {pl:List (Nat × Nat)} {ps:List (Nat × AV)} {z zs:List AV},tg pl ps z=some zs->k (.agg zs)->aB C (gI (fun i=>pl[i]?) ps z fun z=>.val (.agg z)) k
 | pl,[],z,zs,h,hk=>by cases h; exact hk
 | pl,(i,x)::rest,z,zs,h,hk=>by
   simp only [tg] at h
   split at h
   . rename_i o s e
     split at h
     . rename_i hc; rw [uH e]; exact ⟨hc,CH h hk⟩
     . cases h
   . cases h
theorem pM {pl:List (Nat × Nat)} {at_:Option (Nat × TypeId × Nat)} {ps:List (Nat × AV)} (zs:List AV) (h:tg pl ps L=some zs) (hk:K (.agg zs) U):(ek (some pl) (some L) at_ ps).wp C U K Kp:=Fa h hk
theorem aaN {pl:List (Nat × Nat)} {at_:Option (Nat × TypeId × Nat)} {ps:List (Nat × AV)} (zs:List AV) (h:tg pl ps L=some zs) (hk:k (.agg zs)):aB C (ek (some pl) (some L) at_ ps) k:=CH h hk
end
def qh (t:Tk):List AV:=[.int .u8 t.k,.str t.s,.int .i64 t.at_]
def jI (L:List Tk):List AV:=L.flatMap qh
def eP (v:AV) (n:Nat) (cs:List AV):Prop:=(n=0/\cs=[]/\v=.aq)\/∃ c,v=.vec n c cs
theorem Tn (L:List Tk) (i:Nat):(jI L).drop (i * 3)=jI (L.drop i):=by
 induction L generalizing i with
 | nil=>simp [jI]
 | cons t L ih =>
   cases i with
   | zero=>simp
   | succ i =>
     rw [Nat.add_mul,show i * 3+1 * 3=3+i * 3 by omega,<- List.drop_drop,List.drop_succ_cons,<- ih]
     rfl
theorem EP {L:List Tk} {i:Nat} {t:Tk} (h:L[i]?=some t):∃ r,(jI L).drop (i * 3)=qh t++r:=by
 rw [Tn,ib (dC.1 h).1]
 refine ⟨jI (L.drop (i+1)),?_⟩
 have:=(dC.1 h).2
 simp [jI,this]
end Go.Rip
