/- Lemmas for the proof: no conditions. -/
import Derived.Test.YtnfpmiiopiinbaaGreatDoorRipZz
import Derived.Test.YtnfpmiiopiinbaaGreatDoorRipC
import Derived.Test.YtnfpmiiopiinbaaGreatDoorRipD
import Derived.Test.YtnfpmiiopiinbaaGreatDoorRipI
set_option linter.unusedVariables false
set_option linter.unusedSimpArgs false
set_option linter.loopingSimpArgs false
namespace Go.Rip
open Go.RowKit
section
variable {U ad aR a7:St} {b b' r:Nat} {x y:Live} {l l' L:List AV}
theorem dR:(U.set b x).live b'=if b'=b then some x else U.live b':=rfl
theorem mB:(U.new b x).live b'=if b'=b then some x else U.live b':=rfl
theorem kF:(U.del b).live b'=if b'=b then none else U.live b':=rfl
theorem aV:(U.set b (.box l)).box b=some l:=by simp [St.box,dR]
theorem aG:(U.new b (.box l)).box b=some l:=by simp [St.box,mB]
theorem aO (h:b' ≠ b):(U.set b x).box b'=U.box b':=by simp [St.box,dR,h]
theorem pz (h:b' ≠ b):(U.new b x).box b'=U.box b':=by simp [St.box,mB,h]
theorem jg (h:b' ≠ b):(U.del b).box b'=U.box b':=by simp [St.box,kF,h]
theorem DE {t:Tok}:(U.new b (.tok t)).tok b=some t:=by simp [St.tok,mB]
theorem gX (h:b' ≠ b):(U.set b x).tok b'=U.tok b':=by simp [St.tok,dR,h]
theorem cj (h:U.box b=some l):U.live b ≠ none:=by
 intro e; simp [St.box,e] at h
theorem SM {t:Tok} (h:U.tok b=some t):U.live b ≠ none:=by
 intro e; simp [St.tok,e] at h
theorem eV {t:Tok} (h:U.box b=some l) (k:U.tok b'=some t):b ≠ b':=by
 rintro rfl
 unfold St.box at h; unfold St.tok at k
 split at k
 . rename_i e; simp [e] at h
 . cases k
theorem St.dD.bP (h:U.dD b) (k:U.box b'=some l):b' ≠ b:=by
 rintro rfl; exact cj k h.1
theorem dy (h:ad.live b=U.live b):ad.box b=U.box b:=by simp [St.box,h]
theorem kW (h:ad.live b=U.live b):ad.tok b=U.tok b:=by simp [St.tok,h]
def kL (r:Nat) (U ad:St):Prop:=∀ b x,b ≠ r->U.live b=some x->ad.live b=some x
def cW (U ad:St):Prop:=∀ b x,U.live b=some x->ad.live b=some x
theorem cW.refl (U:St):cW U U:=fun _ _ h=>h
theorem cW.trans (h:cW U aR) (k:cW aR a7):cW U a7:=fun b x e=>k b x (h b x e)
theorem kL.refl (r:Nat) (U:St):kL r U U:=fun _ _ _ h=>h
theorem kL.trans (h:kL r U aR) (k:kL r aR a7):kL r U a7:=fun b x n e=>k b x n (h b x n e)
theorem cW.Hr (h:cW U ad):kL r U ad:=fun b x _ e=>h b x e
theorem kL.aX (h:kL r U ad) (n:b ≠ r) (k:U.box b=some l):ad.box b=some l:=by
 cases e:U.live b with
 | none=>simp [St.box,e] at k
 | some x=>rw [dy ((h b x n e).trans e.symm)]; exact k
theorem kL.tok (h:kL r U ad) {t:Tok} (n:b ≠ r) (k:U.tok b=some t):ad.tok b=some t:=by
 cases e:U.live b with
 | none=>simp [St.tok,e] at k
 | some x=>rw [kW ((h b x n e).trans e.symm)]; exact k
theorem cW.aX (h:cW U ad) (k:U.box b=some l):ad.box b=some l:=by
 cases e:U.live b with
 | none=>simp [St.box,e] at k
 | some x=>rw [dy ((h b x e).trans e.symm)]; exact k
theorem cW.tok (h:cW U ad) {t:Tok} (k:U.tok b=some t):ad.tok b=some t:=by
 cases e:U.live b with
 | none=>simp [St.tok,e] at k
 | some x=>rw [kW ((h b x e).trans e.symm)]; exact k
theorem bg (h:U.dD b):cW U (U.new b x):=fun c y e=>by
 rw [mB]; split
 . rename_i n; subst n; rw [h.1] at e; cases e
 . exact e
theorem kL.set (h:kL r U ad) (n:U.live b=none\/b=r):kL r U (ad.set b x):=fun c y m e=>by
 rw [dR]; split
 . rename_i k; subst k
   rcases n with n | n
   . rw [n] at e; cases e
   . exact absurd n m
 . exact h c y m e
theorem cW.set (h:cW U ad) (n:U.live b=none):cW U (ad.set b x):=fun c y e=>by
 rw [dR]; split
 . rename_i k; subst k; rw [n] at e; cases e
 . exact h c y e
theorem kL.del (h:kL r U ad) (n:U.live b=none\/b=r):kL r U (ad.del b):=fun c y m e=>by
 rw [kF]; split
 . rename_i k; subst k
   rcases n with n | n
   . rw [n] at e; cases e
   . exact absurd n m
 . exact h c y m e
theorem cW.del (h:cW U ad) (n:U.live b=none):cW U (ad.del b):=fun c y e=>by
 rw [kF]; split
 . rename_i k; subst k; rw [n] at e; cases e
 . exact h c y e
theorem kL.new (h:kL r U ad) (n:ad.dD b):kL r U (ad.new b x):=h.trans (bg n).Hr
theorem cW.new (h:cW U ad) (n:ad.dD b):cW U (ad.new b x):=h.trans (bg n)
theorem cW.fresh (h:cW U ad) (n:ad.live b=none):U.live b=none:=by
 cases e:U.live b with
 | none=>rfl
 | some x=>rw [h b x e] at n; cases n
theorem kL.fresh (h:kL r U ad) (m:b ≠ r) (n:ad.live b=none):U.live b=none:=by
 cases e:U.live b with
 | none=>rfl
 | some x=>rw [h b x m e] at n; cases n
structure gr (r:Nat) (l:List AV) (U ad:St):Prop where
 box:ad.box r=some l
 ex:kL r U ad
theorem gr.trans (h:gr r l U aR) (k:gr r l' aR a7):gr r l' U a7:=⟨k.box,h.ex.trans k.ex⟩
theorem gr.mg (h:U.box r=some l) (k:cW U ad):gr r l U ad:=⟨k.aX h,k.Hr⟩
end
section
variable {U:St} {b o n:Nat} {L:List AV} {v:AV}
theorem ld (h:U.box b=some L) (n o:Nat):aj (some (false,n)) (.box b o) U=iX (L.drop o):=uv h n o
theorem Py (h:U.box b=some L) (n o:Nat):aj (some (true,n)) (.box b o) U=.cond (n <= (L.drop o).length) (.val (.agg ((L.drop o).take n))):=PD h n o
theorem Ae (h:U.box b=some L) (t:Bool) (n o:Nat) (v:AV):aF (some (t,n)) (.box b o) v U=.cond (v.dc=true/\(au v).length=n/\o+n <= L.length) (.iH (.aH []) b (.box (ay L o (au v)))):=nJ h t n o v
end
@[simp] theorem M4 {vt:Option (Bool × Nat)} {p v:AV} {U:St} {k:AV->Prop} (h:aj vt p U=.val v):bq vt p U k=k v:=by simp [bq,h]
theorem vL {vt:Option (Bool × Nat)} {p v:AV} {U:St} {k:AV->Prop} {q:Prop} [Decidable q] (h:aj vt p U=.cond q (.val v)):bq vt p U k=(q/\k v):=by simp [bq,h]
section
variable {C:cQ} {U τ:St} {K:AV->St->Prop} {Kp:AV->St->Prop} {k:AV->Prop} {b o n sz e:Nat} {t:Bool} {L:List AV} {v:AV}
theorem cI (h:U.box b=some L):(aF (some (t,n)) (.box b o) v U).wp C U K Kp=((v.dc=true/\(au v).length=n/\o+n <= L.length)/\K (.aH []) (U.set b (.box (ay L o (au v))))):=by
 rw [Ae h]; rfl
theorem gz (h:U.box b=some L):(aj (some (false,n)) (.box b o) U).wp C τ K Kp=(iX (L.drop o)).wp C τ K Kp:=by rw [ld h]
theorem su (h:U.box b=some L):aB C (aj (some (false,n)) (.box b o) U) k=aB C (iX (L.drop o)) k:=by rw [ld h]
theorem o5 (h:U.box b=some L):(aj (some (true,n)) (.box b o) U).wp C τ K Kp=(n <= (L.drop o).length/\K (.agg ((L.drop o).take n)) τ):=by rw [Py h]; rfl
theorem yb (h:U.box b=some L):aB C (aj (some (true,n)) (.box b o) U) k=(n <= (L.drop o).length/\k (.agg ((L.drop o).take n))):=by rw [Py h]; rfl
theorem oW (h:U.box b=some L):bq (some (true,n)) (.box b o) U k=(n <= (L.drop o).length/\k (.agg ((L.drop o).take n))):=by rw [vL (Py h n o)]
theorem ye {x:AV} {l:List AV} (h:U.box b=some L) (hd:L.drop o=x::l):bq (some (false,n)) (.box b o) U k=k x:=by
 rw [M4]; rw [ld h,hd]; rfl
theorem bA {x:AV} {l:List AV}:(iX (x::l)).wp C U K Kp=K x U:=rfl
theorem jF {x:AV} {l:List AV}:aB C (iX (x::l)) k=k x:=rfl
theorem ox:(aj (some (false,n)) (.cN L) U).wp C τ K Kp=(iX L).wp C τ K Kp:=rfl
theorem sZ:aB C (aj (some (false,n)) (.cN L) U) k=aB C (iX L) k:=rfl
theorem tZ:(aj (some (true,n)) (.cN L) U).wp C τ K Kp=(n <= L.length/\K (.agg (L.take n)) τ):=rfl
theorem Ly:aB C (aj (some (true,n)) (.cN L) U) k=(n <= L.length/\k (.agg (L.take n))):=rfl
theorem dN {bt:BT} {l:Bool} {x y:Int}:(ax .add bt l (.int .i64 x) (.int .i64 y)).wp C U K Kp=(wa (x+y)/\K (.int .i64 (x+y)) U):=by simp only [my,gL]; rfl
theorem Nq {bt:BT} {l:Bool} {x y:Int}:aB C (ax .add bt l (.int .i64 x) (.int .i64 y)) k=(wa (x+y)/\k (.int .i64 (x+y))):=by simp only [my,gL]; rfl
theorem GR {bt:BT} {l:Bool} {x y:Int}:(ax .sub bt l (.int .i64 x) (.int .i64 y)).wp C U K Kp=(wa (x - y)/\K (.int .i64 (x - y)) U):=by simp only [kT,gL]; rfl
theorem adZ {bt:BT} {l:Bool} {x y:Int}:aB C (ax .sub bt l (.int .i64 x) (.int .i64 y)) k=(wa (x - y)/\k (.int .i64 (x - y))):=by simp only [kT,gL]; rfl
theorem aeE {bt:BT} {l:Bool} {x y:Int}:(ax .mul bt l (.int .i64 x) (.int .i64 y)).wp C U K Kp=(wa (x * y)/\K (.int .i64 (x * y)) U):=by simp only [JI,gL]; rfl
theorem aeC {bt:BT} {l:Bool} {x y:List UInt8}:(ax .add bt l (.str x) (.str y)).wp C U K Kp=(x.length+y.length <= 4294967296/\K (.str (x++y)) U):=rfl
theorem Cq {at_:Option (Nat × TypeId × Nat)} {c:lg} {i:IntKind} {j:Int}:(aL (some (e,sz)) at_ (.vec n c L) (.int i j)).wp C U K Kp=((0 <= j/\j < n)/\K (.cN (L.drop (j.toNat * sz))) U):=rfl
theorem abv {at_:Option (Nat × TypeId × Nat)} {c:lg} {i:IntKind} {j:Int}:aB C (aL (some (e,sz)) at_ (.vec n c L) (.int i j)) k=((0 <= j/\j < n)/\k (.cN (L.drop (j.toNat * sz)))):=rfl
theorem AT {at_:Option (Nat × TypeId × Nat)} {i:IntKind} {j:Int} {z u:Nat}:(aL (some (e,sz)) at_ (.ms b o n z u) (.int i j)).wp C U K Kp=((0 <= j/\j < n/\z=sz)/\K (.box b (o+j.toNat * sz)) U):=rfl
theorem adY {at_:Option (Nat × TypeId × Nat)} {i:IntKind} {j:Int} {z u:Nat}:aB C (aL (some (e,sz)) at_ (.ms b o n z u) (.int i j)) k=((0 <= j/\j < n/\z=sz)/\k (.box b (o+j.toNat * sz))):=rfl
theorem AU {at_:Option (Nat × TypeId × Nat)} {vt:Option (Bool × Nat)} {s:List UInt8} {i:IntKind} {j:Int}:(iv true at_ vt (.str s) (.int i j)).wp C U K Kp=((0 <= j/\j < s.length)/\K (.int .u8 (s.getD j.toNat 0).toNat) U):=by rw [Fs]; rfl
theorem GN {at_:Option (Nat × TypeId × Nat)} {vt:Option (Bool × Nat)} {s:List UInt8} {i:IntKind} {j:Int}:aB C (iv true at_ vt (.str s) (.int i j)) k=((0 <= j/\j < s.length)/\k (.int .u8 (s.getD j.toNat 0).toNat)):=by rw [Fs]; rfl
theorem fA (h:v.dc=true):(eS v).wp C U K Kp=∀ b,U.dD b->K (.box b 0) (U.new b (.box (au v))):=by
 rw [EO _ h]; simp only [wp_cond,true_and]; rfl
theorem cz:(aD.cE L).wp C U K Kp=∀ b,U.dD b->K (.box b 0) (U.new b (.box L)):=rfl
theorem gp {z:List AV} {ps:List (Nat × AV)}:(ar (some (e,sz)) (some z) n false ps).wp C U K Kp=(n * sz <= 16777216/\(gu (fun i=>some (i * sz,sz)) ps (bN n z) fun cs=>.cond (cs.length=n * sz) (.val (.vec n .full cs))).wp C U K Kp):=by
 simp only [ar,bU,if_false]; rfl
theorem ya {z:List AV} {ps:List (Nat × AV)}:aB C (ar (some (e,sz)) (some z) n false ps) k=(n * sz <= 16777216/\aB C (gu (fun i=>some (i * sz,sz)) ps (bN n z) fun cs=>.cond (cs.length=n * sz) (.val (.vec n .full cs))) k):=by
 simp only [ar,bU,if_false]; rfl
theorem eG {pl:Nat->Option (Nat × Nat)} {i s:Nat} {x:AV} {rest:List (Nat × AV)} {f:List AV->aD} (h:pl i=some (o,s)):(gu pl ((i,x)::rest) L f).wp C U K Kp=((x.dc=true/\(au x).length=s/\o+s <= L.length)/\(gu pl rest (ay L o (au x)) f).wp C U K Kp):=by
 simp only [gu,h]; rfl
theorem uB {pl:Nat->Option (Nat × Nat)} {i s:Nat} {x:AV} {rest:List (Nat × AV)} {f:List AV->aD} (h:pl i=some (o,s)):aB C (gu pl ((i,x)::rest) L f) k=((x.dc=true/\(au x).length=s/\o+s <= L.length)/\aB C (gu pl rest (ay L o (au x)) f) k):=by
 simp only [gu,h]; rfl
theorem YY {pl:Nat->Option (Nat × Nat)}:(gu pl [] L fun z=>.val (.agg z)).wp C U K Kp=K (.agg L) U:=rfl
theorem ig {pl:Nat->Option (Nat × Nat)} {m:Nat}:(gu pl [] L fun cs=>.cond (cs.length=m) (.val (.vec n .full cs))).wp C U K Kp=(L.length=m/\K (.vec n .full L) U):=rfl
theorem AI {pl:Nat->Option (Nat × Nat)} {m:Nat}:aB C (gu pl [] L fun cs=>.cond (cs.length=m) (.val (.vec n .full cs))) k=(L.length=m/\k (.vec n .full L)):=rfl
def td:List (Nat × Nat)->List (Nat × AV)->List AV->Option (List AV)
 | _,[],z=>some z
 | pl,(i,x)::rest,z=>match pl[i]? with
   | some (o,s)=>if x.dc=true/\(au x).length=s/\o+s <= z.length then td pl rest (ay z o (au x)) else none
   | none=>none
theorem EN:∀ {pl:List (Nat × Nat)} {ps:List (Nat × AV)} {z zs:List AV},td pl ps z=some zs->K (.agg zs) U->(gu (fun i=>pl[i]?) ps z fun z=>.val (.agg z)).wp C U K Kp
 | pl,[],z,zs,h,hk=>by cases h; exact hk
 | pl,(i,x)::rest,z,zs,h,hk=>by
   simp only [td] at h
   split at h
   . rename_i o s e
     split at h
     . rename_i hc; rw [eG e]; exact ⟨hc,EN h hk⟩
     . cases h
   . cases h
theorem Cz:∀ {pl:List (Nat × Nat)} {ps:List (Nat × AV)} {z zs:List AV},td pl ps z=some zs->k (.agg zs)->aB C (gu (fun i=>pl[i]?) ps z fun z=>.val (.agg z)) k
 | pl,[],z,zs,h,hk=>by cases h; exact hk
 | pl,(i,x)::rest,z,zs,h,hk=>by
   simp only [td] at h
   split at h
   . rename_i o s e
     split at h
     . rename_i hc; rw [uB e]; exact ⟨hc,Cz h hk⟩
     . cases h
   . cases h
theorem oQ {pl:List (Nat × Nat)} {at_:Option (Nat × TypeId × Nat)} {ps:List (Nat × AV)} (zs:List AV) (h:td pl ps L=some zs) (hk:K (.agg zs) U):(dO (some pl) (some L) at_ ps).wp C U K Kp:=EN h hk
theorem aau {pl:List (Nat × Nat)} {at_:Option (Nat × TypeId × Nat)} {ps:List (Nat × AV)} (zs:List AV) (h:td pl ps L=some zs) (hk:k (.agg zs)):aB C (dO (some pl) (some L) at_ ps) k:=Cz h hk
end
def qf (t:Tk):List AV:=[.int .u8 t.k,.str t.s,.int .i64 t.at_]
def jB (L:List Tk):List AV:=L.flatMap qf
def eJ (v:AV) (n:Nat) (cs:List AV):Prop:=(n=0/\cs=[]/\v=.ah)\/∃ c,v=.vec n c cs
theorem SK (L:List Tk) (i:Nat):(jB L).drop (i * 3)=jB (L.drop i):=by
 induction L generalizing i with
 | nil=>simp [jB]
 | cons t L ih =>
   cases i with
   | zero=>simp
   | succ i =>
     rw [Nat.add_mul,show i * 3+1 * 3=3+i * 3 by omega,<- List.drop_drop,List.drop_succ_cons,<- ih]
     rfl
theorem Ez {L:List Tk} {i:Nat} {t:Tk} (h:L[i]?=some t):∃ r,(jB L).drop (i * 3)=qf t++r:=by
 rw [SK,gT (dx.1 h).1]
 refine ⟨jB (L.drop (i+1)),?_⟩
 have:=(dx.1 h).2
 simp [jB,this]
end Go.Rip
