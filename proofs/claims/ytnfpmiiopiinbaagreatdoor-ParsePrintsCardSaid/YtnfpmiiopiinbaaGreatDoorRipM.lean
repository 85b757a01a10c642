/- Lemmas for the proof: no conditions. -/
import Derived.Test.YtnfpmiiopiinbaaGreatDoorRipZz
import Derived.Test.YtnfpmiiopiinbaaGreatDoorRipC
import Derived.Test.YtnfpmiiopiinbaaGreatDoorRipD
import Derived.Test.YtnfpmiiopiinbaaGreatDoorRipI
set_option linter.unusedVariables false
set_option linter.unusedSimpArgs false
set_option linter.loopingSimpArgs false
namespace Go.Rip
open Go.RowKit
section
variable {U af aQ bg:St} {b b' r:Nat} {x y:Live} {l l' L:List AV}
theorem dy:(U.set b x).live b'=if b'=b then some x else U.live b':=rfl
theorem lG:(U.new b x).live b'=if b'=b then some x else U.live b':=rfl
theorem kD:(U.del b).live b'=if b'=b then none else U.live b':=rfl
theorem bD:(U.set b (.box l)).box b=some l:=by simp [St.box,dy]
theorem aS:(U.new b (.box l)).box b=some l:=by simp [St.box,lG]
theorem bf (h:b' ≠ b):(U.set b x).box b'=U.box b':=by simp [St.box,dy,h]
theorem sO (h:b' ≠ b):(U.new b x).box b'=U.box b':=by simp [St.box,lG,h]
theorem jv (h:b' ≠ b):(U.del b).box b'=U.box b':=by simp [St.box,kD,h]
theorem Dh {t:Tok}:(U.new b (.tok t)).tok b=some t:=by simp [St.tok,lG]
theorem il (h:b' ≠ b):(U.set b x).tok b'=U.tok b':=by simp [St.tok,dy,h]
theorem dc (h:U.box b=some l):U.live b ≠ none:=by
 intro e; simp [St.box,e] at h
theorem FF {t:Tok} (h:U.tok b=some t):U.live b ≠ none:=by
 intro e; simp [St.tok,e] at h
theorem gg {t:Tok} (h:U.box b=some l) (k:U.tok b'=some t):b ≠ b':=by
 rintro rfl
 unfold St.box at h; unfold St.tok at k
 split at k
 . rename_i e; simp [e] at h
 . cases k
theorem St.dw.cH (h:U.dw b) (k:U.box b'=some l):b' ≠ b:=by
 rintro rfl; exact dc k h.1
theorem fE (h:af.live b=U.live b):af.box b=U.box b:=by simp [St.box,h]
theorem kg (h:af.live b=U.live b):af.tok b=U.tok b:=by simp [St.tok,h]
def na (r:Nat) (U af:St):Prop:=∀ b x,b ≠ r->U.live b=some x->af.live b=some x
def dD (U af:St):Prop:=∀ b x,U.live b=some x->af.live b=some x
theorem dD.refl (U:St):dD U U:=fun _ _ h=>h
theorem dD.trans (h:dD U aQ) (k:dD aQ bg):dD U bg:=fun b x e=>k b x (h b x e)
theorem na.refl (r:Nat) (U:St):na r U U:=fun _ _ _ h=>h
theorem na.trans (h:na r U aQ) (k:na r aQ bg):na r U bg:=fun b x n e=>k b x n (h b x n e)
theorem dD.Zg (h:dD U af):na r U af:=fun b x _ e=>h b x e
theorem na.bo (h:na r U af) (n:b ≠ r) (k:U.box b=some l):af.box b=some l:=by
 cases e:U.live b with
 | none=>simp [St.box,e] at k
 | some x=>rw [fE ((h b x n e).trans e.symm)]; exact k
theorem na.tok (h:na r U af) {t:Tok} (n:b ≠ r) (k:U.tok b=some t):af.tok b=some t:=by
 cases e:U.live b with
 | none=>simp [St.tok,e] at k
 | some x=>rw [kg ((h b x n e).trans e.symm)]; exact k
theorem dD.bo (h:dD U af) (k:U.box b=some l):af.box b=some l:=by
 cases e:U.live b with
 | none=>simp [St.box,e] at k
 | some x=>rw [fE ((h b x e).trans e.symm)]; exact k
theorem dD.tok (h:dD U af) {t:Tok} (k:U.tok b=some t):af.tok b=some t:=by
 cases e:U.live b with
 | none=>simp [St.tok,e] at k
 | some x=>rw [kg ((h b x e).trans e.symm)]; exact k
theorem bE (h:U.dw b):dD U (U.new b x):=fun c y e=>by
 rw [lG]; split
 . rename_i n; subst n; rw [h.1] at e; cases e
 . exact e
theorem na.set (h:na r U af) (n:U.live b=none\/b=r):na r U (af.set b x):=fun c y m e=>by
 rw [dy]; split
 . rename_i k; subst k
   rcases n with n | n
   . rw [n] at e; cases e
   . exact absurd n m
 . exact h c y m e
theorem dD.set (h:dD U af) (n:U.live b=none):dD U (af.set b x):=fun c y e=>by
 rw [dy]; split
 . rename_i k; subst k; rw [n] at e; cases e
 . exact h c y e
theorem na.del (h:na r U af) (n:U.live b=none\/b=r):na r U (af.del b):=fun c y m e=>by
 rw [kD]; split
 . rename_i k; subst k
   rcases n with n | n
   . rw [n] at e; cases e
   . exact absurd n m
 . exact h c y m e
theorem dD.del (h:dD U af) (n:U.live b=none):dD U (af.del b):=fun c y e=>by
 rw [kD]; split
 . rename_i k; subst k; rw [n] at e; cases e
 . exact h c y e
theorem na.new (h:na r U af) (n:af.dw b):na r U (af.new b x):=h.trans (bE n).Zg
theorem dD.new (h:dD U af) (n:af.dw b):dD U (af.new b x):=h.trans (bE n)
theorem dD.fresh (h:dD U af) (n:af.live b=none):U.live b=none:=by
 cases e:U.live b with
 | none=>rfl
 | some x=>rw [h b x e] at n; cases n
theorem na.fresh (h:na r U af) (m:b ≠ r) (n:af.live b=none):U.live b=none:=by
 cases e:U.live b with
 | none=>rfl
 | some x=>rw [h b x m e] at n; cases n
structure uc (r:Nat) (l:List AV) (U af:St):Prop where
 box:af.box r=some l
 ex:na r U af
theorem uc.trans (h:uc r l U aQ) (k:uc r l' aQ bg):uc r l' U bg:=⟨k.box,h.ex.trans k.ex⟩
theorem uc.tM (h:U.box r=some l) (k:dD U af):uc r l U af:=⟨k.bo h,k.Zg⟩
end
section
variable {U:St} {b o n:Nat} {L:List AV} {v:AV}
theorem ld (h:U.box b=some L) (n o:Nat):ah (some (false,n)) (.box b o) U=iH (L.drop o):=tJ h n o
theorem ldA (h:U.box b=some L) (n o:Nat):ah (some (true,n)) (.box b o) U=.cond (n <= (L.drop o).length) (.val (.agg ((L.drop o).take n))):=Ot h n o
theorem sto (h:U.box b=some L) (t:Bool) (n o:Nat) (v:AV):aU (some (t,n)) (.box b o) v U=.cond (v.eF=true/\(aC v).length=n/\o+n <= L.length) (.ir (.aG []) b (.box (aK L o (aC v)))):=mH h t n o v
end
@[simp] theorem LP {vt:Option (Bool × Nat)} {p v:AV} {U:St} {k:AV->Prop} (h:ah vt p U=.val v):bF vt p U k=k v:=by simp [bF,h]
theorem Jo {vt:Option (Bool × Nat)} {p v:AV} {U:St} {k:AV->Prop} {q:Prop} [Decidable q] (h:ah vt p U=.cond q (.val v)):bF vt p U k=(q/\k v):=by simp [bF,h]
section
variable {C:cT} {U τ:St} {K:AV->St->Prop} {Kp:AV->St->Prop} {k:AV->Prop} {b o n sz e:Nat} {t:Bool} {L:List AV} {v:AV}
theorem dP (h:U.box b=some L):(aU (some (t,n)) (.box b o) v U).wp C U K Kp=((v.eF=true/\(aC v).length=n/\o+n <= L.length)/\K (.aG []) (U.set b (.box (aK L o (aC v))))):=by
 rw [sto h]; rfl
theorem iZ (h:U.box b=some L):(ah (some (false,n)) (.box b o) U).wp C τ K Kp=(iH (L.drop o)).wp C τ K Kp:=by rw [ld h]
theorem tQ (h:U.box b=some L):aF C (ah (some (false,n)) (.box b o) U) k=aF C (iH (L.drop o)) k:=by rw [ld h]
theorem pA (h:U.box b=some L):(ah (some (true,n)) (.box b o) U).wp C τ K Kp=(n <= (L.drop o).length/\K (.agg ((L.drop o).take n)) τ):=by rw [ldA h]; rfl
theorem CZ (h:U.box b=some L):aF C (ah (some (true,n)) (.box b o) U) k=(n <= (L.drop o).length/\k (.agg ((L.drop o).take n))):=by rw [ldA h]; rfl
theorem As (h:U.box b=some L):bF (some (true,n)) (.box b o) U k=(n <= (L.drop o).length/\k (.agg ((L.drop o).take n))):=by rw [Jo (ldA h n o)]
theorem xG {x:AV} {l:List AV} (h:U.box b=some L) (hd:L.drop o=x::l):bF (some (false,n)) (.box b o) U k=k x:=by
 rw [LP]; rw [ld h,hd]; rfl
theorem bN {x:AV} {l:List AV}:(iH (x::l)).wp C U K Kp=K x U:=rfl
theorem iE {x:AV} {l:List AV}:aF C (iH (x::l)) k=k x:=rfl
theorem mB:(ah (some (false,n)) (.cU L) U).wp C τ K Kp=(iH L).wp C τ K Kp:=rfl
theorem oo:aF C (ah (some (false,n)) (.cU L) U) k=aF C (iH L) k:=rfl
theorem rh:(ah (some (true,n)) (.cU L) U).wp C τ K Kp=(n <= L.length/\K (.agg (L.take n)) τ):=rfl
theorem DY:aF C (ah (some (true,n)) (.cU L) U) k=(n <= L.length/\k (.agg (L.take n))):=rfl
theorem cr {bt:BT} {l:Bool} {x y:Int}:(ai .add bt l (.int .i64 x) (.int .i64 y)).wp C U K Kp=(uf (x+y)/\K (.int .i64 (x+y)) U):=by simp only [uT,gQ]; rfl
theorem CY {bt:BT} {l:Bool} {x y:Int}:aF C (ai .add bt l (.int .i64 x) (.int .i64 y)) k=(uf (x+y)/\k (.int .i64 (x+y))):=by simp only [uT,gQ]; rfl
theorem pB {bt:BT} {l:Bool} {x y:Int}:(ai .sub bt l (.int .i64 x) (.int .i64 y)).wp C U K Kp=(uf (x - y)/\K (.int .i64 (x - y)) U):=by simp only [gX,gQ]; rfl
theorem Vi {bt:BT} {l:Bool} {x y:Int}:aF C (ai .sub bt l (.int .i64 x) (.int .i64 y)) k=(uf (x - y)/\k (.int .i64 (x - y))):=by simp only [gX,gQ]; rfl
theorem V7 {bt:BT} {l:Bool} {x y:Int}:(ai .mul bt l (.int .i64 x) (.int .i64 y)).wp C U K Kp=(uf (x * y)/\K (.int .i64 (x * y)) U):=by simp only [IT,gQ]; rfl
theorem jS {bt:BT} {l:Bool} {x y:List UInt8}:(ai .add bt l (.str x) (.str y)).wp C U K Kp=(x.length+y.length <= 4294967296/\K (.str (x++y)) U):=rfl
theorem py {bt:BT} {l:Bool} {x y:List UInt8}:aF C (ai .add bt l (.str x) (.str y)) k=(x.length+y.length <= 4294967296/\k (.str (x++y))):=rfl
theorem ua {at_:Option (Nat × TypeId × Nat)} {c:nY} {i:IntKind} {j:Int}:(au (some (e,sz)) at_ (.vec n c L) (.int i j)).wp C U K Kp=((0 <= j/\j < n)/\K (.cU (L.drop (j.toNat * sz))) U):=rfl
theorem Me {at_:Option (Nat × TypeId × Nat)} {c:nY} {i:IntKind} {j:Int}:aF C (au (some (e,sz)) at_ (.vec n c L) (.int i j)) k=((0 <= j/\j < n)/\k (.cU (L.drop (j.toNat * sz)))):=rfl
theorem AE {at_:Option (Nat × TypeId × Nat)} {i:IntKind} {j:Int} {z u:Nat}:(au (some (e,sz)) at_ (.ms b o n z u) (.int i j)).wp C U K Kp=((0 <= j/\j < n/\z=sz)/\K (.box b (o+j.toNat * sz)) U):=rfl
theorem Ge {at_:Option (Nat × TypeId × Nat)} {i:IntKind} {j:Int} {z u:Nat}:aF C (au (some (e,sz)) at_ (.ms b o n z u) (.int i j)) k=((0 <= j/\j < n/\z=sz)/\k (.box b (o+j.toNat * sz))):=rfl
theorem qC {at_:Option (Nat × TypeId × Nat)} {vt:Option (Bool × Nat)} {s:List UInt8} {i:IntKind} {j:Int}:(eh true at_ vt (.str s) (.int i j)).wp C U K Kp=((0 <= j/\j < s.length)/\K (.int .u8 (s.getD j.toNat 0).toNat) U):=by rw [EO]; rfl
theorem rz {at_:Option (Nat × TypeId × Nat)} {vt:Option (Bool × Nat)} {s:List UInt8} {i:IntKind} {j:Int}:aF C (eh true at_ vt (.str s) (.int i j)) k=((0 <= j/\j < s.length)/\k (.int .u8 (s.getD j.toNat 0).toNat)):=by rw [EO]; rfl
theorem fg (h:v.eF=true):(eO v).wp C U K Kp=∀ b,U.dw b->K (.box b 0) (U.new b (.box (aC v))):=by
 rw [MV _ h]; simp only [wp_cond,true_and]; rfl
theorem df:(ay.db L).wp C U K Kp=∀ b,U.dw b->K (.box b 0) (U.new b (.box L)):=rfl
theorem jo {z:List AV} {ps:List (Nat × AV)}:(aJ (some (e,sz)) (some z) n false ps).wp C U K Kp=(n * sz <= 16777216/\(gG (fun i=>some (i * sz,sz)) ps (cN n z) fun cs=>.cond (cs.length=n * sz) (.val (.vec n .full cs))).wp C U K Kp):=by
 simp only [aJ,bC,if_false]; rfl
theorem BH {z:List AV} {ps:List (Nat × AV)}:aF C (aJ (some (e,sz)) (some z) n false ps) k=(n * sz <= 16777216/\aF C (gG (fun i=>some (i * sz,sz)) ps (cN n z) fun cs=>.cond (cs.length=n * sz) (.val (.vec n .full cs))) k):=by
 simp only [aJ,bC,if_false]; rfl
theorem iY {pl:Nat->Option (Nat × Nat)} {i s:Nat} {x:AV} {rest:List (Nat × AV)} {f:List AV->ay} (h:pl i=some (o,s)):(gG pl ((i,x)::rest) L f).wp C U K Kp=((x.eF=true/\(aC x).length=s/\o+s <= L.length)/\(gG pl rest (aK L o (aC x)) f).wp C U K Kp):=by
 simp only [gG,h]; rfl
theorem wh {pl:Nat->Option (Nat × Nat)} {i s:Nat} {x:AV} {rest:List (Nat × AV)} {f:List AV->ay} (h:pl i=some (o,s)):aF C (gG pl ((i,x)::rest) L f) k=((x.eF=true/\(aC x).length=s/\o+s <= L.length)/\aF C (gG pl rest (aK L o (aC x)) f) k):=by
 simp only [gG,h]; rfl
theorem Xl {pl:Nat->Option (Nat × Nat)}:(gG pl [] L fun z=>.val (.agg z)).wp C U K Kp=K (.agg L) U:=rfl
theorem kY {pl:Nat->Option (Nat × Nat)} {m:Nat}:(gG pl [] L fun cs=>.cond (cs.length=m) (.val (.vec n .full cs))).wp C U K Kp=(L.length=m/\K (.vec n .full L) U):=rfl
theorem DZ {pl:Nat->Option (Nat × Nat)} {m:Nat}:aF C (gG pl [] L fun cs=>.cond (cs.length=m) (.val (.vec n .full cs))) k=(L.length=m/\k (.vec n .full L)):=rfl
def sf:List (Nat × Nat)->List (Nat × AV)->List AV->Option (List AV)
 | _,[],z=>some z
 | pl,(i,x)::rest,z=>match pl[i]? with
   | some (o,s)=>if x.eF=true/\(aC x).length=s/\o+s <= z.length then sf pl rest (aK z o (aC x)) else none
   | none=>none
theorem El:∀ {pl:List (Nat × Nat)} {ps:List (Nat × AV)} {z zs:List AV},sf pl ps z=some zs->K (.agg zs) U->(gG (fun i=>pl[i]?) ps z fun z=>.val (.agg z)).wp C U K Kp
 | pl,[],z,zs,h,hk=>by cases h; exact hk
 | pl,(i,x)::rest,z,zs,h,hk=>by
   simp only [sf] at h
   split at h
   . rename_i o s e
     split at h
     . rename_i hc; rw [iY e]; exact ⟨hc,El h hk⟩
     . cases h
   . cases h
theorem Ca:∀ {pl:List (Nat × Nat)} {ps:List (Nat × AV)} {z zs:List AV},sf pl ps z=some zs->k (.agg zs)->aF C (gG (fun i=>pl[i]?) ps z fun z=>.val (.agg z)) k
 | pl,[],z,zs,h,hk=>by cases h; exact hk
 | pl,(i,x)::rest,z,zs,h,hk=>by
   simp only [sf] at h
   split at h
   . rename_i o s e
     split at h
     . rename_i hc; rw [wh e]; exact ⟨hc,Ca h hk⟩
     . cases h
   . cases h
theorem rL {pl:List (Nat × Nat)} {at_:Option (Nat × TypeId × Nat)} {ps:List (Nat × AV)} (zs:List AV) (h:sf pl ps L=some zs) (hk:K (.agg zs) U):(ee (some pl) (some L) at_ ps).wp C U K Kp:=El h hk
theorem Y3 {pl:List (Nat × Nat)} {at_:Option (Nat × TypeId × Nat)} {ps:List (Nat × AV)} (zs:List AV) (h:sf pl ps L=some zs) (hk:k (.agg zs)):aF C (ee (some pl) (some L) at_ ps) k:=Ca h hk
end
def lB (t:Tk):List AV:=[.int .u8 t.k,.str t.s,.int .i64 t.at_]
def eP (L:List Tk):List AV:=L.flatMap lB
def cB (v:AV) (n:Nat) (cs:List AV):Prop:=(n=0/\cs=[]/\v=.aA)\/∃ c,v=.vec n c cs
theorem FD (L:List Tk) (i:Nat):(eP L).drop (i * 3)=eP (L.drop i):=by
 induction L generalizing i with
 | nil=>simp [eP]
 | cons t L ih =>
   cases i with
   | zero=>simp
   | succ i =>
     rw [Nat.add_mul,show i * 3+1 * 3=3+i * 3 by omega,<- List.drop_drop,List.drop_succ_cons,<- ih]
     rfl
theorem Xg {L:List Tk} {i:Nat} {t:Tk} (h:L[i]?=some t):∃ r,(eP L).drop (i * 3)=lB t++r:=by
 rw [FD,fU (de.1 h).1]
 refine ⟨eP (L.drop (i+1)),?_⟩
 have:=(de.1 h).2
 simp [eP,this]
end Go.Rip
