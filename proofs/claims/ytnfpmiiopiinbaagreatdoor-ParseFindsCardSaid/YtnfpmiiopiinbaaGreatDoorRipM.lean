/- Lemmas for the proof: no conditions. -/
import Derived.Test.YtnfpmiiopiinbaaGreatDoorRipZz
import Derived.Test.YtnfpmiiopiinbaaGreatDoorRipC
import Derived.Test.YtnfpmiiopiinbaaGreatDoorRipD
import Derived.Test.YtnfpmiiopiinbaaGreatDoorRipI
set_option linter.unusedVariables false
set_option linter.unusedSimpArgs false
set_option linter.loopingSimpArgs false
namespace Go.Rip
open Go.RowKit
section
variable {U ae bJ bX : St} {b b' r : Nat} {x y : Live} {l l' L : List AV}
theorem ez : (U.set b x).live b' = if b' = b then some x else U.live b' := rfl
theorem ng : (U.new b x).live b' = if b' = b then some x else U.live b' := rfl
theorem oH : (U.del b).live b' = if b' = b then none else U.live b' := rfl
theorem aS : (U.set b (.box l)).box b = some l := by simp [St.box, ez]
theorem aL : (U.new b (.box l)).box b = some l := by simp [St.box, ng]
theorem aN (h : b' ≠ b) : (U.set b x).box b' = U.box b' := by simp [St.box, ez, h]
theorem lX (h : b' ≠ b) : (U.new b x).box b' = U.box b' := by simp [St.box, ng, h]
theorem fI (h : b' ≠ b) : (U.del b).box b' = U.box b' := by simp [St.box, oH, h]
theorem zp {t : Tok} : (U.new b (.tok t)).tok b = some t := by simp [St.tok, ng]
theorem jo (h : b' ≠ b) : (U.set b x).tok b' = U.tok b' := by simp [St.tok, ez, h]
theorem cK (h : U.box b = some l) : U.live b ≠ none := by
 intro e; simp [St.box, e] at h
theorem MN {t : Tok} (h : U.tok b = some t) : U.live b ≠ none := by
 intro e; simp [St.tok, e] at h
theorem fJ {t : Tok} (h : U.box b = some l) (k : U.tok b' = some t) : b ≠ b' := by
 rintro rfl
 unfold St.box at h; unfold St.tok at k
 split at k
 · rename_i e; simp [e] at h
 · cases k
theorem St.cQ.bZ (h : U.cQ b) (k : U.box b' = some l) : b' ≠ b := by
 rintro rfl; exact cK k h.1
theorem gC (h : ae.live b = U.live b) : ae.box b = U.box b := by simp [St.box, h]
theorem se (h : ae.live b = U.live b) : ae.tok b = U.tok b := by simp [St.tok, h]
def hX (r : Nat) (U ae : St) : Prop := ∀ b x, b ≠ r -> U.live b = some x -> ae.live b = some x
def cJ (U ae : St) : Prop := ∀ b x, U.live b = some x -> ae.live b = some x
theorem cJ.refl (U : St) : cJ U U := fun _ _ h => h
theorem cJ.trans (h : cJ U bJ) (k : cJ bJ bX) : cJ U bX := fun b x e => k b x (h b x e)
theorem hX.refl (r : Nat) (U : St) : hX r U U := fun _ _ _ h => h
theorem hX.trans (h : hX r U bJ) (k : hX r bJ bX) : hX r U bX := fun b x n e => k b x n (h b x n e)
theorem cJ.Io (h : cJ U ae) : hX r U ae := fun b x _ e => h b x e
theorem hX.bo (h : hX r U ae) (n : b ≠ r) (k : U.box b = some l) : ae.box b = some l := by
 cases e : U.live b with
 | none => simp [St.box, e] at k
 | some x => rw [gC ((h b x n e).trans e.symm)]; exact k
theorem hX.tok (h : hX r U ae) {t : Tok} (n : b ≠ r) (k : U.tok b = some t) : ae.tok b = some t := by
 cases e : U.live b with
 | none => simp [St.tok, e] at k
 | some x => rw [se ((h b x n e).trans e.symm)]; exact k
theorem cJ.bo (h : cJ U ae) (k : U.box b = some l) : ae.box b = some l := by
 cases e : U.live b with
 | none => simp [St.box, e] at k
 | some x => rw [gC ((h b x e).trans e.symm)]; exact k
theorem cJ.tok (h : cJ U ae) {t : Tok} (k : U.tok b = some t) : ae.tok b = some t := by
 cases e : U.live b with
 | none => simp [St.tok, e] at k
 | some x => rw [se ((h b x e).trans e.symm)]; exact k
theorem bm (h : U.cQ b) : cJ U (U.new b x) := fun c y e => by
 rw [ng]; split
 · rename_i n; subst n; rw [h.1] at e; cases e
 · exact e
theorem hX.set (h : hX r U ae) (n : U.live b = none \/ b = r) : hX r U (ae.set b x) := fun c y m e => by
 rw [ez]; split
 · rename_i k; subst k
   rcases n with n | n
   · rw [n] at e; cases e
   · exact absurd n m
 · exact h c y m e
theorem cJ.set (h : cJ U ae) (n : U.live b = none) : cJ U (ae.set b x) := fun c y e => by
 rw [ez]; split
 · rename_i k; subst k; rw [n] at e; cases e
 · exact h c y e
theorem hX.del (h : hX r U ae) (n : U.live b = none \/ b = r) : hX r U (ae.del b) := fun c y m e => by
 rw [oH]; split
 · rename_i k; subst k
   rcases n with n | n
   · rw [n] at e; cases e
   · exact absurd n m
 · exact h c y m e
theorem cJ.del (h : cJ U ae) (n : U.live b = none) : cJ U (ae.del b) := fun c y e => by
 rw [oH]; split
 · rename_i k; subst k; rw [n] at e; cases e
 · exact h c y e
theorem hX.new (h : hX r U ae) (n : ae.cQ b) : hX r U (ae.new b x) := h.trans (bm n).Io
theorem cJ.new (h : cJ U ae) (n : ae.cQ b) : cJ U (ae.new b x) := h.trans (bm n)
theorem cJ.fresh (h : cJ U ae) (n : ae.live b = none) : U.live b = none := by
 cases e : U.live b with
 | none => rfl
 | some x => rw [h b x e] at n; cases n
theorem hX.fresh (h : hX r U ae) (m : b ≠ r) (n : ae.live b = none) : U.live b = none := by
 cases e : U.live b with
 | none => rfl
 | some x => rw [h b x m e] at n; cases n
structure eQ (r : Nat) (l : List AV) (U ae : St) : Prop where
 box : ae.box r = some l
 ex : hX r U ae
theorem eQ.trans (h : eQ r l U bJ) (k : eQ r l' bJ bX) : eQ r l' U bX := ⟨k.box, h.ex.trans k.ex⟩
theorem eQ.pF (h : U.box r = some l) (k : cJ U ae) : eQ r l U ae := ⟨k.bo h, k.Io⟩
end
section
variable {U : St} {b o n : Nat} {L : List AV} {v : AV}
theorem ld (h : U.box b = some L) (n o : Nat) : aq (some (false, n)) (.box b o) U = fW (L.drop o) := qD h n o
theorem Jp (h : U.box b = some L) (n o : Nat) : aq (some (true, n)) (.box b o) U = .cond (n <= (L.drop o).length) (.val (.agg ((L.drop o).take n))) := Jx h n o
theorem vT (h : U.box b = some L) (t : Bool) (n o : Nat) (v : AV) : aM (some (t, n)) (.box b o) v U = .cond (v.cS = true /\ (ax v).length = n /\ o + n <= L.length) (.jD (.aQ []) b (.box (aA L o (ax v)))) := j0 h t n o v
end
@[simp] theorem Hm {vt : Option (Bool × Nat)} {p v : AV} {U : St} {k : AV -> Prop} (h : aq vt p U = .val v) : bl vt p U k = k v := by simp [bl, h]
theorem rX {vt : Option (Bool × Nat)} {p v : AV} {U : St} {k : AV -> Prop} {q : Prop} [Decidable q] (h : aq vt p U = .cond q (.val v)) : bl vt p U k = (q /\ k v) := by simp [bl, h]
section
variable {C : cu} {U τ : St} {K : AV -> St -> Prop} {Kp : AV -> St -> Prop} {k : AV -> Prop} {b o n sz e : Nat} {t : Bool} {L : List AV} {v : AV}
theorem cA (h : U.box b = some L) : (aM (some (t, n)) (.box b o) v U).wp C U K Kp = ((v.cS = true /\ (ax v).length = n /\ o + n <= L.length) /\ K (.aQ []) (U.set b (.box (aA L o (ax v))))) := by
 rw [vT h]; rfl
theorem ff (h : U.box b = some L) : (aq (some (false, n)) (.box b o) U).wp C τ K Kp = (fW (L.drop o)).wp C τ K Kp := by rw [ld h]
theorem lK (h : U.box b = some L) : aC C (aq (some (false, n)) (.box b o) U) k = aC C (fW (L.drop o)) k := by rw [ld h]
theorem rL (h : U.box b = some L) : (aq (some (true, n)) (.box b o) U).wp C τ K Kp = (n <= (L.drop o).length /\ K (.agg ((L.drop o).take n)) τ) := by rw [Jp h]; rfl
theorem B2 (h : U.box b = some L) : aC C (aq (some (true, n)) (.box b o) U) k = (n <= (L.drop o).length /\ k (.agg ((L.drop o).take n))) := by rw [Jp h]; rfl
theorem lq (h : U.box b = some L) : bl (some (true, n)) (.box b o) U k = (n <= (L.drop o).length /\ k (.agg ((L.drop o).take n))) := by rw [rX (Jp h n o)]
theorem ud {x : AV} {l : List AV} (h : U.box b = some L) (hd : L.drop o = x :: l) : bl (some (false, n)) (.box b o) U k = k x := by
 rw [Hm]; rw [ld h, hd]; rfl
theorem bG {x : AV} {l : List AV} : (fW (x :: l)).wp C U K Kp = K x U := rfl
theorem fB {x : AV} {l : List AV} : aC C (fW (x :: l)) k = k x := rfl
theorem mR : (aq (some (false, n)) (.cj L) U).wp C τ K Kp = (fW L).wp C τ K Kp := rfl
theorem oa : aC C (aq (some (false, n)) (.cj L) U) k = aC C (fW L) k := rfl
theorem Au : (aq (some (true, n)) (.cj L) U).wp C τ K Kp = (n <= L.length /\ K (.agg (L.take n)) τ) := rfl
theorem R3 : aC C (aq (some (true, n)) (.cj L) U) k = (n <= L.length /\ k (.agg (L.take n))) := rfl
theorem cq {bt : BT} {l : Bool} {x y : Int} : (ak .add bt l (.int .i64 x) (.int .i64 y)).wp C U K Kp = (uy (x + y) /\ K (.int .i64 (x + y)) U) := by simp only [js, er]; rfl
theorem zd {bt : BT} {l : Bool} {x y : Int} : aC C (ak .add bt l (.int .i64 x) (.int .i64 y)) k = (uy (x + y) /\ k (.int .i64 (x + y))) := by simp only [js, er]; rfl
theorem Rc {bt : BT} {l : Bool} {x y : Int} : (ak .sub bt l (.int .i64 x) (.int .i64 y)).wp C U K Kp = (uy (x - y) /\ K (.int .i64 (x - y)) U) := by simp only [fx, er]; rfl
theorem Ra {bt : BT} {l : Bool} {x y : Int} : (ak .mul bt l (.int .i64 x) (.int .i64 y)).wp C U K Kp = (uy (x * y) /\ K (.int .i64 (x * y)) U) := by simp only [Er, er]; rfl
theorem Av {at_ : Option (Nat × TypeId × Nat)} {c : iV} {i : IntKind} {j : Int} : (aG (some (e, sz)) at_ (.vec n c L) (.int i j)).wp C U K Kp = ((0 <= j /\ j < n) /\ K (.cj (L.drop (j.toNat * sz))) U) := rfl
theorem VF {at_ : Option (Nat × TypeId × Nat)} {c : iV} {i : IntKind} {j : Int} : aC C (aG (some (e, sz)) at_ (.vec n c L) (.int i j)) k = ((0 <= j /\ j < n) /\ k (.cj (L.drop (j.toNat * sz)))) := rfl
theorem wN {at_ : Option (Nat × TypeId × Nat)} {i : IntKind} {j : Int} {z u : Nat} : (aG (some (e, sz)) at_ (.ms b o n z u) (.int i j)).wp C U K Kp = ((0 <= j /\ j < n /\ z = sz) /\ K (.box b (o + j.toNat * sz)) U) := rfl
theorem B1 {at_ : Option (Nat × TypeId × Nat)} {i : IntKind} {j : Int} {z u : Nat} : aC C (aG (some (e, sz)) at_ (.ms b o n z u) (.int i j)) k = ((0 <= j /\ j < n /\ z = sz) /\ k (.box b (o + j.toNat * sz))) := rfl
theorem uu {at_ : Option (Nat × TypeId × Nat)} {vt : Option (Bool × Nat)} {s : List UInt8} {i : IntKind} {j : Int} : (eg true at_ vt (.str s) (.int i j)).wp C U K Kp = ((0 <= j /\ j < s.length) /\ K (.int .u8 (s.getD j.toNat 0).toNat) U) := by rw [Bb]; rfl
theorem tZ {at_ : Option (Nat × TypeId × Nat)} {vt : Option (Bool × Nat)} {s : List UInt8} {i : IntKind} {j : Int} : aC C (eg true at_ vt (.str s) (.int i j)) k = ((0 <= j /\ j < s.length) /\ k (.int .u8 (s.getD j.toNat 0).toNat)) := by rw [Bb]; rfl
theorem eA (h : v.cS = true) : (eH v).wp C U K Kp = ∀ b, U.cQ b -> K (.box b 0) (U.new b (.box (ax v))) := by
 rw [AE _ h]; simp only [wp_cond, true_and]; rfl
theorem cx : (av.cr L).wp C U K Kp = ∀ b, U.cQ b -> K (.box b 0) (U.new b (.box L)) := rfl
theorem fO {z : List AV} {ps : List (Nat × AV)} : (aP (some (e, sz)) (some z) n false ps).wp C U K Kp = (n * sz <= 16777216 /\ (eK (fun i => some (i * sz, sz)) ps (bL n z) fun cs => .cond (cs.length = n * sz) (.val (.vec n .full cs))).wp C U K Kp) := by
 simp only [aP, bq, if_false]; rfl
theorem xV {z : List AV} {ps : List (Nat × AV)} : aC C (aP (some (e, sz)) (some z) n false ps) k = (n * sz <= 16777216 /\ aC C (eK (fun i => some (i * sz, sz)) ps (bL n z) fun cs => .cond (cs.length = n * sz) (.val (.vec n .full cs))) k) := by
 simp only [aP, bq, if_false]; rfl
theorem eM {pl : Nat -> Option (Nat × Nat)} {i s : Nat} {x : AV} {rest : List (Nat × AV)} {f : List AV -> av} (h : pl i = some (o, s)) : (eK pl ((i, x) :: rest) L f).wp C U K Kp = ((x.cS = true /\ (ax x).length = s /\ o + s <= L.length) /\ (eK pl rest (aA L o (ax x)) f).wp C U K Kp) := by
 simp only [eK, h]; rfl
theorem vJ {pl : Nat -> Option (Nat × Nat)} {i s : Nat} {x : AV} {rest : List (Nat × AV)} {f : List AV -> av} (h : pl i = some (o, s)) : aC C (eK pl ((i, x) :: rest) L f) k = ((x.cS = true /\ (ax x).length = s /\ o + s <= L.length) /\ aC C (eK pl rest (aA L o (ax x)) f) k) := by
 simp only [eK, h]; rfl
theorem Sj {pl : Nat -> Option (Nat × Nat)} : (eK pl [] L fun z => .val (.agg z)).wp C U K Kp = K (.agg L) U := rfl
theorem gX {pl : Nat -> Option (Nat × Nat)} {m : Nat} : (eK pl [] L fun cs => .cond (cs.length = m) (.val (.vec n .full cs))).wp C U K Kp = (L.length = m /\ K (.vec n .full L) U) := rfl
theorem Ad {pl : Nat -> Option (Nat × Nat)} {m : Nat} : aC C (eK pl [] L fun cs => .cond (cs.length = m) (.val (.vec n .full cs))) k = (L.length = m /\ k (.vec n .full L)) := rfl
def xD : List (Nat × Nat) -> List (Nat × AV) -> List AV -> Option (List AV)
 | _, [], z => some z
 | pl, (i, x) :: rest, z => match pl[i]? with
   | some (o, s) => if x.cS = true /\ (ax x).length = s /\ o + s <= z.length then xD pl rest (aA z o (ax x)) else none
   | none => none
theorem AD : ∀ {pl : List (Nat × Nat)} {ps : List (Nat × AV)} {z zs : List AV}, xD pl ps z = some zs -> K (.agg zs) U -> (eK (fun i => pl[i]?) ps z fun z => .val (.agg z)).wp C U K Kp
 | pl, [], z, zs, h, hk => by cases h; exact hk
 | pl, (i, x) :: rest, z, zs, h, hk => by
   simp only [xD] at h
   split at h
   · rename_i o s e
     split at h
     · rename_i hc; rw [eM e]; exact ⟨hc, AD h hk⟩
     · cases h
   · cases h
theorem nP {pl : List (Nat × Nat)} {at_ : Option (Nat × TypeId × Nat)} {ps : List (Nat × AV)} (zs : List AV) (h : xD pl ps L = some zs) (hk : K (.agg zs) U) : (c7 (some pl) (some L) at_ ps).wp C U K Kp := AD h hk
end
def mP (t : Tk) : List AV := [.int .u8 t.k, .str t.s, .int .i64 t.at_]
def gy (L : List Tk) : List AV := L.flatMap mP
def eB (v : AV) (n : Nat) (cs : List AV) : Prop := (n = 0 /\ cs = [] /\ v = .al) \/ ∃ c, v = .vec n c cs
theorem MJ (L : List Tk) (i : Nat) : (gy L).drop (i * 3) = gy (L.drop i) := by
 induction L generalizing i with
 | nil => simp [gy]
 | cons t L ih =>
   cases i with
   | zero => simp
   | succ i =>
     rw [Nat.add_mul, show i * 3 + 1 * 3 = 3 + i * 3 by omega, <- List.drop_drop, List.drop_succ_cons, <- ih]
     rfl
theorem Ao {L : List Tk} {i : Nat} {t : Tk} (h : L[i]? = some t) : ∃ r, (gy L).drop (i * 3) = mP t ++ r := by
 rw [MJ, fN (dm.1 h).1]
 refine ⟨gy (L.drop (i + 1)), ?_⟩
 have := (dm.1 h).2
 simp [gy, this]
end Go.Rip
