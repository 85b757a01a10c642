/- Lemmas for the proof: no conditions. -/
import Derived.Test.YtnfpmiiopiinbaaGreatDoorRipZz
import Derived.Test.YtnfpmiiopiinbaaGreatDoorRipC
import Derived.Test.YtnfpmiiopiinbaaGreatDoorRipD
import Derived.Test.YtnfpmiiopiinbaaGreatDoorRipI
set_option linter.unusedVariables false
set_option linter.unusedSimpArgs false
set_option linter.loopingSimpArgs false
namespace Go.Rip
open Go.RowKit
section
variable {U ad bF bI:St} {b b' r:Nat} {x y:Live} {l l' L:List AV}
theorem eE:(U.set b x).live b'=if b'=b then some x else U.live b':=rfl
theorem nS:(U.new b x).live b'=if b'=b then some x else U.live b':=rfl
theorem mf:(U.del b).live b'=if b'=b then none else U.live b':=rfl
theorem aX:(U.set b (.box l)).box b=some l:=by simp[St.box,eE]
theorem aI:(U.new b (.box l)).box b=some l:=by simp[St.box,nS]
theorem aM (h:b'≠b):(U.set b x).box b'=U.box b':=by simp[St.box,eE,h]
theorem mF (h:b'≠b):(U.new b x).box b'=U.box b':=by simp[St.box,nS,h]
theorem iD (h:b'≠b):(U.del b).box b'=U.box b':=by simp[St.box,mf,h]
theorem AO {t:Tok}:(U.new b (.tok t)).tok b=some t:=by simp[St.tok,nS]
theorem iL (h:b'≠b):(U.set b x).tok b'=U.tok b':=by simp[St.tok,eE,h]
theorem JZ (h:b'≠b):(U.del b).tok b'=U.tok b':=by simp[St.tok,mf,h]
theorem dA (h:U.box b=some l):U.live b≠none:=by
 intro e; simp[St.box,e]at h
theorem Ok {t:Tok} (h:U.tok b=some t):U.live b≠none:=by
 intro e; simp[St.tok,e]at h
theorem eo {t:Tok} (h:U.box b=some l) (k:U.tok b'=some t):b≠b':=by
 rintro rfl;unfold St.box at h; unfold St.tok at k;split at k
 . rename_i e; simp[e]at h
 . cases k
theorem St.cV.bP (h:U.cV b) (k:U.box b'=some l):b'≠b:=by
 rintro rfl; exact dA k h.1
theorem dx (h:ad.live b=U.live b):ad.box b=U.box b:=by simp[St.box,h]
theorem pI (h:ad.live b=U.live b):ad.tok b=U.tok b:=by simp[St.tok,h]
def gR (r:Nat) (U ad:St):Prop:=∀ b x,b≠r->U.live b=some x->ad.live b=some x
def cG (U ad:St):Prop:=∀ b x,U.live b=some x->ad.live b=some x
theorem cG.refl (U:St):cG U U:=λ _ _ h=>h
theorem cG.trans (h:cG U bF) (k:cG bF bI):cG U bI:=λ b x e=>k b x (h b x e)
theorem gR.refl (r:Nat) (U:St):gR r U U:=λ _ _ _ h=>h
theorem gR.trans (h:gR r U bF) (k:gR r bF bI):gR r U bI:=λ b x n e=>k b x n (h b x n e)
theorem cG.D8 (h:cG U ad):gR r U ad:=λ b x _ e=>h b x e
theorem gR.bf (h:gR r U ad) (n:b≠r) (k:U.box b=some l):ad.box b=some l:=by
 cases e:U.live b with
 | none=>simp[St.box,e]at k
 | some x=>rw[dx ((h b x n e).trans e.symm)]; exact k
theorem gR.tok (h:gR r U ad) {t:Tok} (n:b≠r) (k:U.tok b=some t):ad.tok b=some t:=by
 cases e:U.live b with
 | none=>simp[St.tok,e]at k
 | some x=>rw[pI ((h b x n e).trans e.symm)]; exact k
theorem cG.bf (h:cG U ad) (k:U.box b=some l):ad.box b=some l:=by
 cases e:U.live b with
 | none=>simp[St.box,e]at k
 | some x=>rw[dx ((h b x e).trans e.symm)]; exact k
theorem cG.tok (h:cG U ad) {t:Tok} (k:U.tok b=some t):ad.tok b=some t:=by
 cases e:U.live b with
 | none=>simp[St.tok,e]at k
 | some x=>rw[pI ((h b x e).trans e.symm)]; exact k
theorem bC (h:U.cV b):cG U (U.new b x):=λ c y e=>by
 rw[nS]; split
 . rename_i n; subst n; rw[h.1]at e; cases e
 . exact e
theorem gR.set (h:gR r U ad) (n:U.live b=none\/b=r):gR r U (ad.set b x):=λ c y m e=>by
 rw[eE]; split
 . rename_i k; subst k;rcases n with n|n
   . rw[n]at e; cases e
   . exact absurd n m
 . exact h c y m e
theorem cG.set (h:cG U ad) (n:U.live b=none):cG U (ad.set b x):=λ c y e=>by
 rw[eE]; split
 . rename_i k; subst k; rw[n]at e; cases e
 . exact h c y e
theorem gR.del (h:gR r U ad) (n:U.live b=none\/b=r):gR r U (ad.del b):=λ c y m e=>by
 rw[mf]; split
 . rename_i k; subst k;rcases n with n|n
   . rw[n]at e; cases e
   . exact absurd n m
 . exact h c y m e
theorem cG.del (h:cG U ad) (n:U.live b=none):cG U (ad.del b):=λ c y e=>by
 rw[mf]; split
 . rename_i k; subst k; rw[n]at e; cases e
 . exact h c y e
theorem gR.new (h:gR r U ad) (n:ad.cV b):gR r U (ad.new b x):=h.trans (bC n).D8
theorem cG.new (h:cG U ad) (n:ad.cV b):cG U (ad.new b x):=h.trans (bC n)
theorem cG.fresh (h:cG U ad) (n:ad.live b=none):U.live b=none:=by
 cases e:U.live b with
 | none=>rfl
 | some x=>rw[h b x e]at n; cases n
theorem gR.fresh (h:gR r U ad) (m:b≠r) (n:ad.live b=none):U.live b=none:=by
 cases e:U.live b with
 | none=>rfl
 | some x=>rw[h b x m e]at n; cases n
structure eP (r:Nat) (l:List AV) (U ad:St):Prop where
 box:ad.box r=some l
 ex:gR r U ad
theorem eP.trans (h:eP r l U bF) (k:eP r l' bF bI):eP r l' U bI:=⟨k.box,h.ex.trans k.ex⟩
theorem eP.pX (h:U.box r=some l) (k:cG U ad):eP r l U ad:=⟨k.bf h,k.D8⟩
end
section
variable {U:St} {b o n:Nat} {L:List AV} {v:AV}
theorem ld (h:U.box b=some L) (n o:Nat):ar (some (false,n)) (.box b o) U=fV (L.drop o):=rp h n o
theorem LA (h:U.box b=some L) (n o:Nat):ar (some (true,n)) (.box b o) U=.cond (n<=(L.drop o).length) (.val (.agg ((L.drop o).take n))):=LJ h n o
theorem xq (h:U.box b=some L) (t:Bool) (n o:Nat) (v:AV):aG (some (t,n)) (.box b o) v U=.cond (v.cA=true/\(au v).length=n/\o+n<=L.length) (.kI (.aQ []) b (.box (ax L o (au v)))):=kO h t n o v
end
@[simp] theorem JA {vt:Option (Bool×Nat)} {p v:AV} {U:St} {k:AV->Prop} (h:ar vt p U=.val v):bE vt p U k=k v:=by simp[bE,h]
theorem sR {vt:Option (Bool×Nat)} {p v:AV} {U:St} {k:AV->Prop} {q:Prop} [Decidable q] (h:ar vt p U=.cond q (.val v)):bE vt p U k=(q/\k v):=by simp[bE,h]
section
variable {C:ck} {U τ:St} {K:AV->St->Prop} {Kp:AV->St->Prop} {k:AV->Prop} {b o n sz e:Nat} {t:Bool} {L:List AV} {v:AV}
theorem cL (h:U.box b=some L):(aG (some (t,n)) (.box b o) v U).wp C U K Kp=((v.cA=true/\(au v).length=n/\o+n<=L.length)/\K (.aQ []) (U.set b (.box (ax L o (au v))))):=by
 rw[xq h]; rfl
theorem eO (h:U.box b=some L):(ar (some (false,n)) (.box b o) U).wp C τ K Kp=(fV (L.drop o)).wp C τ K Kp:=by rw[ld h]
theorem nk (h:U.box b=some L):ao C (ar (some (false,n)) (.box b o) U) k=ao C (fV (L.drop o)) k:=by rw[ld h]
theorem mR (h:U.box b=some L):(ar (some (true,n)) (.box b o) U).wp C τ K Kp=(n<=(L.drop o).length/\K (.agg ((L.drop o).take n)) τ):=by rw[LA h]; rfl
theorem AD (h:U.box b=some L):ao C (ar (some (true,n)) (.box b o) U) k=(n<=(L.drop o).length/\k (.agg ((L.drop o).take n))):=by rw[LA h]; rfl
theorem oR (h:U.box b=some L):bE (some (true,n)) (.box b o) U k=(n<=(L.drop o).length/\k (.agg ((L.drop o).take n))):=by rw[sR (LA h n o)]
theorem FA {x:AV} {l:List AV} (h:U.box b=some L) (hd:L.drop o=x::l):bE (some (false,n)) (.box b o) U k=k x:=by
 rw[JA]; rw[ld h,hd]; rfl
theorem bl {x:AV} {l:List AV}:(fV (x::l)).wp C U K Kp=K x U:=rfl
theorem fi {x:AV} {l:List AV}:ao C (fV (x::l)) k=k x:=rfl
theorem rQ:(ar (some (false,n)) (.ca L) U).wp C τ K Kp=(fV L).wp C τ K Kp:=rfl
theorem oO:ao C (ar (some (false,n)) (.ca L) U) k=ao C (fV L) k:=rfl
theorem tZ:(ar (some (true,n)) (.ca L) U).wp C τ K Kp=(n<=L.length/\K (.agg (L.take n)) τ):=rfl
theorem H6:ao C (ar (some (true,n)) (.ca L) U) k=(n<=L.length/\k (.agg (L.take n))):=rfl
theorem dm {bt:BT} {l:Bool} {x y:Int}:(aw .add bt l (.int .i64 x) (.int .i64 y)).wp C U K Kp=(tf (x+y)/\K (.int .i64 (x+y)) U):=by simp only[jN,fx]; rfl
theorem xV {bt:BT} {l:Bool} {x y:Int}:ao C (aw .add bt l (.int .i64 x) (.int .i64 y)) k=(tf (x+y)/\k (.int .i64 (x+y))):=by simp only[jN,fx]; rfl
theorem Zj {bt:BT} {l:Bool} {x y:Int}:(aw .sub bt l (.int .i64 x) (.int .i64 y)).wp C U K Kp=(tf (x-y)/\K (.int .i64 (x-y)) U):=by simp only[jP,fx]; rfl
theorem DB {bt:BT} {l:Bool} {x y:Int}:ao C (aw .sub bt l (.int .i64 x) (.int .i64 y)) k=(tf (x-y)/\k (.int .i64 (x-y))):=by simp only[jP,fx]; rfl
theorem Zi {bt:BT} {l:Bool} {x y:Int}:(aw .mul bt l (.int .i64 x) (.int .i64 y)).wp C U K Kp=(tf (x*y)/\K (.int .i64 (x*y)) U):=by simp only[Gi,fx]; rfl
theorem A0 {bt:BT} {l:Bool} {x y:List UInt8}:(aw .add bt l (.str x) (.str y)).wp C U K Kp=(x.length+y.length<=4294967296/\K (.str (x++y)) U):=rfl
theorem QT {at_:Option (Nat×TypeId×Nat)} {c:kf} {i:IntKind} {j:Int}:(aJ (some (e,sz)) at_ (.vec n c L) (.int i j)).wp C U K Kp=((0<=j/\j<n)/\K (.ca (L.drop (j.toNat*sz))) U):=rfl
theorem WT {at_:Option (Nat×TypeId×Nat)} {c:kf} {i:IntKind} {j:Int}:ao C (aJ (some (e,sz)) at_ (.vec n c L) (.int i j)) k=((0<=j/\j<n)/\k (.ca (L.drop (j.toNat*sz)))):=rfl
theorem DH {at_:Option (Nat×TypeId×Nat)} {i:IntKind} {j:Int} {z u:Nat}:(aJ (some (e,sz)) at_ (.ms b o n z u) (.int i j)).wp C U K Kp=((0<=j/\j<n/\z=sz)/\K (.box b (o+j.toNat*sz)) U):=rfl
theorem RQ {at_:Option (Nat×TypeId×Nat)} {i:IntKind} {j:Int} {z u:Nat}:ao C (aJ (some (e,sz)) at_ (.ms b o n z u) (.int i j)) k=((0<=j/\j<n/\z=sz)/\k (.box b (o+j.toNat*sz))):=rfl
theorem A6 {at_:Option (Nat×TypeId×Nat)} {vt:Option (Bool×Nat)} {s:List UInt8} {i:IntKind} {j:Int}:(gk true at_ vt (.str s) (.int i j)).wp C U K Kp=((0<=j/\j<s.length)/\K (.int .u8 (s.getD j.toNat 0).toNat) U):=by rw[Cs]; rfl
theorem JO {at_:Option (Nat×TypeId×Nat)} {vt:Option (Bool×Nat)} {s:List UInt8} {i:IntKind} {j:Int}:ao C (gk true at_ vt (.str s) (.int i j)) k=((0<=j/\j<s.length)/\k (.int .u8 (s.getD j.toNat 0).toNat)):=by rw[Cs]; rfl
theorem fY (h:v.cA=true):(fM v).wp C U K Kp=∀ b,U.cV b->K (.box b 0) (U.new b (.box (au v))):=by
 rw[B5 _ h]; simp only[wp_cond,true_and]; rfl
theorem cK:(ay.cB L).wp C U K Kp=∀ b,U.cV b->K (.box b 0) (U.new b (.box L)):=rfl
theorem fw {z:List AV} {ps:List (Nat×AV)}:(aF (some (e,sz)) (some z) n false ps).wp C U K Kp=(n*sz<=16777216/\(eS (λ i=>some (i*sz,sz)) ps (bN n z) λ cs=>.cond (cs.length=n*sz) (.val (.vec n .full cs))).wp C U K Kp):=by
 simp only[aF,bQ,if_false]; rfl
theorem zk {z:List AV} {ps:List (Nat×AV)}:ao C (aF (some (e,sz)) (some z) n false ps) k=(n*sz<=16777216/\ao C (eS (λ i=>some (i*sz,sz)) ps (bN n z) λ cs=>.cond (cs.length=n*sz) (.val (.vec n .full cs))) k):=by
 simp only[aF,bQ,if_false]; rfl
theorem dQ {pl:Nat->Option (Nat×Nat)} {i s:Nat} {x:AV} {rest:List (Nat×AV)} {f:List AV->ay} (h:pl i=some (o,s)):(eS pl ((i,x)::rest) L f).wp C U K Kp=((x.cA=true/\(au x).length=s/\o+s<=L.length)/\(eS pl rest (ax L o (au x)) f).wp C U K Kp):=by
 simp only[eS,h]; rfl
theorem wY {pl:Nat->Option (Nat×Nat)} {i s:Nat} {x:AV} {rest:List (Nat×AV)} {f:List AV->ay} (h:pl i=some (o,s)):ao C (eS pl ((i,x)::rest) L f) k=((x.cA=true/\(au x).length=s/\o+s<=L.length)/\ao C (eS pl rest (ax L o (au x)) f) k):=by
 simp only[eS,h]; rfl
theorem TG {pl:Nat->Option (Nat×Nat)}:(eS pl [] L λ z=>.val (.agg z)).wp C U K Kp=K (.agg L) U:=rfl
theorem gw {pl:Nat->Option (Nat×Nat)} {m:Nat}:(eS pl [] L λ cs=>.cond (cs.length=m) (.val (.vec n .full cs))).wp C U K Kp=(L.length=m/\K (.vec n .full L) U):=rfl
theorem BI {pl:Nat->Option (Nat×Nat)} {m:Nat}:ao C (eS pl [] L λ cs=>.cond (cs.length=m) (.val (.vec n .full cs))) k=(L.length=m/\k (.vec n .full L)):=rfl
def uj:List (Nat×Nat)->List (Nat×AV)->List AV->Option (List AV)
 | _,[],z=>some z
 | pl,(i,x)::rest,z=>match pl[i]? with
   | some (o,s)=>if x.cA=true/\(au x).length=s/\o+s<=z.length then uj pl rest (ax z o (au x)) else none
   | none=>none
theorem B4:∀ {pl:List (Nat×Nat)} {ps:List (Nat×AV)} {z zs:List AV},uj pl ps z=some zs->K (.agg zs) U->(eS (λ i=>pl[i]?) ps z λ z=>.val (.agg z)).wp C U K Kp
 | pl,[],z,zs,h,hk=>by cases h; exact hk
 | pl,(i,x)::rest,z,zs,h,hk=>by
   simp only[uj]at h;split at h
   . rename_i o s e;split at h
     . rename_i hc; rw[dQ e]; exact⟨hc,B4 h hk⟩
     . cases h
   . cases h
theorem kj {pl:List (Nat×Nat)} {at_:Option (Nat×TypeId×Nat)} {ps:List (Nat×AV)} (zs:List AV) (h:uj pl ps L=some zs) (hk:K (.agg zs) U):(cX (some pl) (some L) at_ ps).wp C U K Kp:=B4 h hk
end
def jK (t:Tk):List AV:=[.int .u8 t.k,.str t.s,.int .i64 t.at_]
def gB (L:List Tk):List AV:=L.flatMap jK
def gx (v:AV) (n:Nat) (cs:List AV):Prop:=(n=0/\cs=[]/\v=.ag)\/∃ c,v=.vec n c cs
theorem Oh (L:List Tk) (i:Nat):(gB L).drop (i*3)=gB (L.drop i):=by
 induction L generalizing i with
 | nil=>simp[gB]
 | cons t L ih =>
   cases i with
   | zero=>simp
   | succ i =>
     rw[Nat.add_mul,show i*3+1*3=3+i*3 by omega,<- List.drop_drop,List.drop_succ_cons,<- ih];rfl
theorem tV {L:List Tk} {i:Nat} {t:Tk} (h:L[i]?=some t):∃ r,(gB L).drop (i*3)=jK t++r:=by
 rw[Oh,iq (dp.1 h).1];refine⟨gB (L.drop (i+1)),?_⟩;have:=(dp.1 h).2;simp[gB,this]
end Go.Rip
