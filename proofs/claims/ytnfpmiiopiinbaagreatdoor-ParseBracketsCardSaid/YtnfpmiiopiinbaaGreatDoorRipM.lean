/- Lemmas for the proof: no conditions. -/
import Derived.Test.YtnfpmiiopiinbaaGreatDoorRipZz
import Derived.Test.YtnfpmiiopiinbaaGreatDoorRipC
import Derived.Test.YtnfpmiiopiinbaaGreatDoorRipD
import Derived.Test.YtnfpmiiopiinbaaGreatDoorRipI
set_option linter.unusedVariables false
set_option linter.unusedSimpArgs false
set_option linter.loopingSimpArgs false
namespace Go.Rip
open Go.RowKit
section
variable {U ad aS bf:St} {b b' r:Nat} {x y:Live} {l l' L:List AV}
theorem dW:(U.set b x).live b'=if b'=b then some x else U.live b':=rfl
theorem nJ:(U.new b x).live b'=if b'=b then some x else U.live b':=rfl
theorem jX:(U.del b).live b'=if b'=b then none else U.live b':=rfl
theorem aT:(U.set b (.box l)).box b=some l:=by simp[St.box,dW]
theorem aD:(U.new b (.box l)).box b=some l:=by simp[St.box,nJ]
theorem aO (h:b'≠b):(U.set b x).box b'=U.box b':=by simp[St.box,dW,h]
theorem oU (h:b'≠b):(U.new b x).box b'=U.box b':=by simp[St.box,nJ,h]
theorem jl (h:b'≠b):(U.del b).box b'=U.box b':=by simp[St.box,jX,h]
theorem FE {t:Tok}:(U.new b (.tok t)).tok b=some t:=by simp[St.tok,nJ]
theorem iL (h:b'≠b):(U.set b x).tok b'=U.tok b':=by simp[St.tok,dW,h]
theorem ct (h:U.box b=some l):U.live b≠none:=by
 intro e; simp[St.box,e]at h
theorem fB {t:Tok} (h:U.box b=some l) (k:U.tok b'=some t):b≠b':=by
 rintro rfl;unfold St.box at h; unfold St.tok at k;split at k
 . rename_i e; simp[e]at h
 . cases k
theorem St.dL.bO (h:U.dL b) (k:U.box b'=some l):b'≠b:=by
 rintro rfl; exact ct k h.1
theorem dS (h:ad.live b=U.live b):ad.box b=U.box b:=by simp[St.box,h]
theorem nP (h:ad.live b=U.live b):ad.tok b=U.tok b:=by simp[St.tok,h]
def l8 (r:Nat) (U ad:St):Prop:=∀ b x,b≠r->U.live b=some x->ad.live b=some x
def cX (U ad:St):Prop:=∀ b x,U.live b=some x->ad.live b=some x
theorem cX.refl (U:St):cX U U:=λ _ _ h=>h
theorem cX.trans (h:cX U aS) (k:cX aS bf):cX U bf:=λ b x e=>k b x (h b x e)
theorem l8.refl (r:Nat) (U:St):l8 r U U:=λ _ _ _ h=>h
theorem l8.trans (h:l8 r U aS) (k:l8 r aS bf):l8 r U bf:=λ b x n e=>k b x n (h b x n e)
theorem cX.J5 (h:cX U ad):l8 r U ad:=λ b x _ e=>h b x e
theorem l8.aY (h:l8 r U ad) (n:b≠r) (k:U.box b=some l):ad.box b=some l:=by
 cases e:U.live b with
 | none=>simp[St.box,e]at k
 | some x=>rw[dS ((h b x n e).trans e.symm)]; exact k
theorem l8.tok (h:l8 r U ad) {t:Tok} (n:b≠r) (k:U.tok b=some t):ad.tok b=some t:=by
 cases e:U.live b with
 | none=>simp[St.tok,e]at k
 | some x=>rw[nP ((h b x n e).trans e.symm)]; exact k
theorem cX.aY (h:cX U ad) (k:U.box b=some l):ad.box b=some l:=by
 cases e:U.live b with
 | none=>simp[St.box,e]at k
 | some x=>rw[dS ((h b x e).trans e.symm)]; exact k
theorem cX.tok (h:cX U ad) {t:Tok} (k:U.tok b=some t):ad.tok b=some t:=by
 cases e:U.live b with
 | none=>simp[St.tok,e]at k
 | some x=>rw[nP ((h b x e).trans e.symm)]; exact k
theorem bg (h:U.dL b):cX U (U.new b x):=λ c y e=>by
 rw[nJ]; split
 . rename_i n; subst n; rw[h.1]at e; cases e
 . exact e
theorem l8.set (h:l8 r U ad) (n:U.live b=none\/b=r):l8 r U (ad.set b x):=λ c y m e=>by
 rw[dW]; split
 . rename_i k; subst k;rcases n with n|n
   . rw[n]at e; cases e
   . exact absurd n m
 . exact h c y m e
theorem cX.set (h:cX U ad) (n:U.live b=none):cX U (ad.set b x):=λ c y e=>by
 rw[dW]; split
 . rename_i k; subst k; rw[n]at e; cases e
 . exact h c y e
theorem l8.del (h:l8 r U ad) (n:U.live b=none\/b=r):l8 r U (ad.del b):=λ c y m e=>by
 rw[jX]; split
 . rename_i k; subst k;rcases n with n|n
   . rw[n]at e; cases e
   . exact absurd n m
 . exact h c y m e
theorem cX.del (h:cX U ad) (n:U.live b=none):cX U (ad.del b):=λ c y e=>by
 rw[jX]; split
 . rename_i k; subst k; rw[n]at e; cases e
 . exact h c y e
theorem l8.new (h:l8 r U ad) (n:ad.dL b):l8 r U (ad.new b x):=h.trans (bg n).J5
theorem cX.new (h:cX U ad) (n:ad.dL b):cX U (ad.new b x):=h.trans (bg n)
theorem cX.fresh (h:cX U ad) (n:ad.live b=none):U.live b=none:=by
 cases e:U.live b with
 | none=>rfl
 | some x=>rw[h b x e]at n; cases n
theorem l8.fresh (h:l8 r U ad) (m:b≠r) (n:ad.live b=none):U.live b=none:=by
 cases e:U.live b with
 | none=>rfl
 | some x=>rw[h b x m e]at n; cases n
structure iD (r:Nat) (l:List AV) (U ad:St):Prop where
 box:ad.box r=some l
 ex:l8 r U ad
theorem iD.trans (h:iD r l U aS) (k:iD r l' aS bf):iD r l' U bf:=⟨k.box,h.ex.trans k.ex⟩
theorem iD.nS (h:U.box r=some l) (k:cX U ad):iD r l U ad:=⟨k.aY h,k.J5⟩
end
section
variable {U:St} {b o n:Nat} {L:List AV} {v:AV}
theorem ld (h:U.box b=some L) (n o:Nat):ak (some (false,n)) (.box b o) U=jH (L.drop o):=vK h n o
theorem S8 (h:U.box b=some L) (n o:Nat):ak (some (true,n)) (.box b o) U=.cond (n<=(L.drop o).length) (.val (.agg ((L.drop o).take n))):=Te h n o
theorem BL (h:U.box b=some L) (t:Bool) (n o:Nat) (v:AV):aI (some (t,n)) (.box b o) v U=.cond (v.dw=true/\(av v).length=n/\o+n<=L.length) (.jG (.aK []) b (.box (ay L o (av v)))):=oS h t n o v
end
@[simp] theorem Qt {vt:Option (Bool×Nat)} {p v:AV} {U:St} {k:AV->Prop} (h:ak vt p U=.val v):bD vt p U k=k v:=by simp[bD,h]
theorem xp {vt:Option (Bool×Nat)} {p v:AV} {U:St} {k:AV->Prop} {q:Prop} [Decidable q] (h:ak vt p U=.cond q (.val v)):bD vt p U k=(q/\k v):=by simp[bD,h]
section
variable {C:de} {U τ:St} {K:AV->St->Prop} {Kp:AV->St->Prop} {k:AV->Prop} {b o n sz e:Nat} {t:Bool} {L:List AV} {v:AV}
theorem cI (h:U.box b=some L):(aI (some (t,n)) (.box b o) v U).wp C U K Kp=((v.dw=true/\(av v).length=n/\o+n<=L.length)/\K (.aK []) (U.set b (.box (ay L o (av v))))):=by
 rw[BL h]; rfl
theorem il (h:U.box b=some L):(ak (some (false,n)) (.box b o) U).wp C τ K Kp=(jH (L.drop o)).wp C τ K Kp:=by rw[ld h]
theorem tH (h:U.box b=some L):az C (ak (some (false,n)) (.box b o) U) k=az C (jH (L.drop o)) k:=by rw[ld h]
theorem ph (h:U.box b=some L):(ak (some (true,n)) (.box b o) U).wp C τ K Kp=(n<=(L.drop o).length/\K (.agg ((L.drop o).take n)) τ):=by rw[S8 h]; rfl
theorem zA (h:U.box b=some L):az C (ak (some (true,n)) (.box b o) U) k=(n<=(L.drop o).length/\k (.agg ((L.drop o).take n))):=by rw[S8 h]; rfl
theorem pT (h:U.box b=some L):bD (some (true,n)) (.box b o) U k=(n<=(L.drop o).length/\k (.agg ((L.drop o).take n))):=by rw[xp (S8 h n o)]
theorem zD {x:AV} {l:List AV} (h:U.box b=some L) (hd:L.drop o=x::l):bD (some (false,n)) (.box b o) U k=k x:=by
 rw[Qt]; rw[ld h,hd]; rfl
theorem bC {x:AV} {l:List AV}:(jH (x::l)).wp C U K Kp=K x U:=rfl
theorem jE {x:AV} {l:List AV}:az C (jH (x::l)) k=k x:=rfl
theorem oK:(ak (some (false,n)) (.da L) U).wp C τ K Kp=(jH L).wp C τ K Kp:=rfl
theorem qf:az C (ak (some (false,n)) (.da L) U) k=az C (jH L) k:=rfl
theorem tS:(ak (some (true,n)) (.da L) U).wp C τ K Kp=(n<=L.length/\K (.agg (L.take n)) τ):=rfl
theorem OS:az C (ak (some (true,n)) (.da L) U) k=(n<=L.length/\k (.agg (L.take n))):=rfl
theorem dO {bt:BT} {l:Bool} {x y:Int}:(aw .add bt l (.int .i64 x) (.int .i64 y)).wp C U K Kp=(wh (x+y)/\K (.int .i64 (x+y)) U):=by simp only[nF,iv]; rfl
theorem Fk {bt:BT} {l:Bool} {x y:Int}:az C (aw .add bt l (.int .i64 x) (.int .i64 y)) k=(wh (x+y)/\k (.int .i64 (x+y))):=by simp only[nF,iv]; rfl
theorem FR {bt:BT} {l:Bool} {x y:Int}:(aw .sub bt l (.int .i64 x) (.int .i64 y)).wp C U K Kp=(wh (x-y)/\K (.int .i64 (x-y)) U):=by simp only[l9,iv]; rfl
theorem aht {bt:BT} {l:Bool} {x y:Int}:az C (aw .sub bt l (.int .i64 x) (.int .i64 y)) k=(wh (x-y)/\k (.int .i64 (x-y))):=by simp only[l9,iv]; rfl
theorem aia {bt:BT} {l:Bool} {x y:Int}:(aw .mul bt l (.int .i64 x) (.int .i64 y)).wp C U K Kp=(wh (x*y)/\K (.int .i64 (x*y)) U):=by simp only[ME,iv]; rfl
theorem ah8 {bt:BT} {l:Bool} {x y:List UInt8}:(aw .add bt l (.str x) (.str y)).wp C U K Kp=(x.length+y.length<=4294967296/\K (.str (x++y)) U):=rfl
theorem Jq {bt:BT} {l:Bool} {x y:List UInt8}:az C (aw .add bt l (.str x) (.str y)) k=(x.length+y.length<=4294967296/\k (.str (x++y))):=rfl
theorem zN {at_:Option (Nat×TypeId×Nat)} {c:mr} {i:IntKind} {j:Int}:(aE (some (e,sz)) at_ (.vec n c L) (.int i j)).wp C U K Kp=((0<=j/\j<n)/\K (.da (L.drop (j.toNat*sz))) U):=rfl
theorem LA {at_:Option (Nat×TypeId×Nat)} {c:mr} {i:IntKind} {j:Int}:az C (aE (some (e,sz)) at_ (.vec n c L) (.int i j)) k=((0<=j/\j<n)/\k (.da (L.drop (j.toNat*sz)))):=rfl
theorem CC {at_:Option (Nat×TypeId×Nat)} {i:IntKind} {j:Int} {z u:Nat}:(aE (some (e,sz)) at_ (.ms b o n z u) (.int i j)).wp C U K Kp=((0<=j/\j<n/\z=sz)/\K (.box b (o+j.toNat*sz)) U):=rfl
theorem Cr {at_:Option (Nat×TypeId×Nat)} {i:IntKind} {j:Int} {z u:Nat}:az C (aE (some (e,sz)) at_ (.ms b o n z u) (.int i j)) k=((0<=j/\j<n/\z=sz)/\k (.box b (o+j.toNat*sz))):=rfl
theorem CD {at_:Option (Nat×TypeId×Nat)} {vt:Option (Bool×Nat)} {s:List UInt8} {i:IntKind} {j:Int}:(jf true at_ vt (.str s) (.int i j)).wp C U K Kp=((0<=j/\j<s.length)/\K (.int .u8 (s.getD j.toNat 0).toNat) U):=by rw[HE]; rfl
theorem Jr {at_:Option (Nat×TypeId×Nat)} {vt:Option (Bool×Nat)} {s:List UInt8} {i:IntKind} {j:Int}:az C (jf true at_ vt (.str s) (.int i j)) k=((0<=j/\j<s.length)/\k (.int .u8 (s.getD j.toNat 0).toNat)):=by rw[HE]; rfl
theorem gd (h:v.dw=true):(fL v).wp C U K Kp=∀ b,U.dL b->K (.box b 0) (U.new b (.box (av v))):=by
 rw[Ha _ h]; simp only[wp_cond,true_and]; rfl
theorem cm:(aC.cL L).wp C U K Kp=∀ b,U.dL b->K (.box b 0) (U.new b (.box L)):=rfl
theorem hZ {z:List AV} {ps:List (Nat×AV)}:(au (some (e,sz)) (some z) n false ps).wp C U K Kp=(n*sz<=16777216/\(ib (λ i=>some (i*sz,sz)) ps (bT n z) λ cs=>.cond (cs.length=n*sz) (.val (.vec n .full cs))).wp C U K Kp):=by
 simp only[au,bZ,if_false]; rfl
theorem zz {z:List AV} {ps:List (Nat×AV)}:az C (au (some (e,sz)) (some z) n false ps) k=(n*sz<=16777216/\az C (ib (λ i=>some (i*sz,sz)) ps (bT n z) λ cs=>.cond (cs.length=n*sz) (.val (.vec n .full cs))) k):=by
 simp only[au,bZ,if_false]; rfl
theorem ff {pl:Nat->Option (Nat×Nat)} {i s:Nat} {x:AV} {rest:List (Nat×AV)} {f:List AV->aC} (h:pl i=some (o,s)):(ib pl ((i,x)::rest) L f).wp C U K Kp=((x.dw=true/\(av x).length=s/\o+s<=L.length)/\(ib pl rest (ay L o (av x)) f).wp C U K Kp):=by
 simp only[ib,h]; rfl
theorem vR {pl:Nat->Option (Nat×Nat)} {i s:Nat} {x:AV} {rest:List (Nat×AV)} {f:List AV->aC} (h:pl i=some (o,s)):az C (ib pl ((i,x)::rest) L f) k=((x.dw=true/\(av x).length=s/\o+s<=L.length)/\az C (ib pl rest (ay L o (av x)) f) k):=by
 simp only[ib,h]; rfl
theorem acv {pl:Nat->Option (Nat×Nat)}:(ib pl [] L λ z=>.val (.agg z)).wp C U K Kp=K (.agg L) U:=rfl
theorem ja {pl:Nat->Option (Nat×Nat)} {m:Nat}:(ib pl [] L λ cs=>.cond (cs.length=m) (.val (.vec n .full cs))).wp C U K Kp=(L.length=m/\K (.vec n .full L) U):=rfl
theorem Cq {pl:Nat->Option (Nat×Nat)} {m:Nat}:az C (ib pl [] L λ cs=>.cond (cs.length=m) (.val (.vec n .full cs))) k=(L.length=m/\k (.vec n .full L)):=rfl
def uB:List (Nat×Nat)->List (Nat×AV)->List AV->Option (List AV)
 | _,[],z=>some z
 | pl,(i,x)::rest,z=>match pl[i]? with
   | some (o,s)=>if x.dw=true/\(av x).length=s/\o+s<=z.length then uB pl rest (ay z o (av x)) else none
   | none=>none
theorem G9:∀ {pl:List (Nat×Nat)} {ps:List (Nat×AV)} {z zs:List AV},uB pl ps z=some zs->K (.agg zs) U->(ib (λ i=>pl[i]?) ps z λ z=>.val (.agg z)).wp C U K Kp
 | pl,[],z,zs,h,hk=>by cases h; exact hk
 | pl,(i,x)::rest,z,zs,h,hk=>by
   simp only[uB]at h;split at h
   . rename_i o s e;split at h
     . rename_i hc; rw[ff e]; exact⟨hc,G9 h hk⟩
     . cases h
   . cases h
theorem Eh:∀ {pl:List (Nat×Nat)} {ps:List (Nat×AV)} {z zs:List AV},uB pl ps z=some zs->k (.agg zs)->az C (ib (λ i=>pl[i]?) ps z λ z=>.val (.agg z)) k
 | pl,[],z,zs,h,hk=>by cases h; exact hk
 | pl,(i,x)::rest,z,zs,h,hk=>by
   simp only[uB]at h;split at h
   . rename_i o s e;split at h
     . rename_i hc; rw[vR e]; exact⟨hc,Eh h hk⟩
     . cases h
   . cases h
theorem pK {pl:List (Nat×Nat)} {at_:Option (Nat×TypeId×Nat)} {ps:List (Nat×AV)} (zs:List AV) (h:uB pl ps L=some zs) (hk:K (.agg zs) U):(ek (some pl) (some L) at_ ps).wp C U K Kp:=G9 h hk
theorem ad1 {pl:List (Nat×Nat)} {at_:Option (Nat×TypeId×Nat)} {ps:List (Nat×AV)} (zs:List AV) (h:uB pl ps L=some zs) (hk:k (.agg zs)):az C (ek (some pl) (some L) at_ ps) k:=Eh h hk
end
def jM (t:Tk):List AV:=[.int .u8 t.k,.str t.s,.int .i64 t.at_]
def gO (L:List Tk):List AV:=L.flatMap jM
def eW (v:AV) (n:Nat) (cs:List AV):Prop:=(n=0/\cs=[]/\v=.ag)\/∃ c,v=.vec n c cs
theorem IG (L:List Tk) (i:Nat):(gO L).drop (i*3)=gO (L.drop i):=by
 induction L generalizing i with
 | nil=>simp[gO]
 | cons t L ih =>
   cases i with
   | zero=>simp
   | succ i =>
     rw[Nat.add_mul,show i*3+1*3=3+i*3 by omega,<- List.drop_drop,List.drop_succ_cons,<- ih];rfl
theorem GO {L:List Tk} {i:Nat} {t:Tk} (h:L[i]?=some t):∃ r,(gO L).drop (i*3)=jM t++r:=by
 rw[IG,gM (dp.1 h).1];refine⟨gO (L.drop (i+1)),?_⟩;have:=(dp.1 h).2;simp[gO,this]
end Go.Rip
