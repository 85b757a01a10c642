/- Lemmas for the proof: no conditions. -/
import Derived.Test.YtnfpmiiopiinbaaGreatDoorRipZz
import Derived.Test.YtnfpmiiopiinbaaGreatDoorRipC
import Derived.Test.YtnfpmiiopiinbaaGreatDoorRipD
import Derived.Test.YtnfpmiiopiinbaaGreatDoorRipI
set_option linter.unusedVariables false
set_option linter.unusedSimpArgs false
set_option linter.loopingSimpArgs false
namespace Go.Rip
open Go.RowKit
section
variable {U ae bT bR : St} {b b' r : Nat} {x y : Live} {l l' L : List AV}
theorem eM : (U.set b x).live b' = if b' = b then some x else U.live b' := rfl
theorem lA : (U.new b x).live b' = if b' = b then some x else U.live b' := rfl
theorem na : (U.del b).live b' = if b' = b then none else U.live b' := rfl
theorem bo : (U.set b (.box l)).box b = some l := by simp [St.box, eM]
theorem aN : (U.new b (.box l)).box b = some l := by simp [St.box, lA]
theorem aY (h : b' ≠ b) : (U.set b x).box b' = U.box b' := by simp [St.box, eM, h]
theorem nP (h : b' ≠ b) : (U.new b x).box b' = U.box b' := by simp [St.box, lA, h]
theorem hX (h : b' ≠ b) : (U.del b).box b' = U.box b' := by simp [St.box, na, h]
theorem zx {t : Tok} : (U.new b (.tok t)).tok b = some t := by simp [St.tok, lA]
theorem ib (h : b' ≠ b) : (U.set b x).tok b' = U.tok b' := by simp [St.tok, eM, h]
theorem HB (h : b' ≠ b) : (U.del b).tok b' = U.tok b' := by simp [St.tok, na, h]
theorem dR (h : U.box b = some l) : U.live b ≠ none := by
 intro e; simp [St.box, e] at h
theorem fe {t : Tok} (h : U.box b = some l) (k : U.tok b' = some t) : b ≠ b' := by
 rintro rfl
 unfold St.box at h; unfold St.tok at k
 split at k
 · rename_i e; simp [e] at h
 · cases k
theorem St.cN.cD (h : U.cN b) (k : U.box b' = some l) : b' ≠ b := by
 rintro rfl; exact dR k h.1
theorem fW (h : ae.live b = U.live b) : ae.box b = U.box b := by simp [St.box, h]
theorem xA (h : ae.live b = U.live b) : ae.tok b = U.tok b := by simp [St.tok, h]
def gU (r : Nat) (U ae : St) : Prop := ∀ b x, b ≠ r -> U.live b = some x -> ae.live b = some x
def cH (U ae : St) : Prop := ∀ b x, U.live b = some x -> ae.live b = some x
theorem cH.refl (U : St) : cH U U := fun _ _ h => h
theorem cH.trans (h : cH U bT) (k : cH bT bR) : cH U bR := fun b x e => k b x (h b x e)
theorem gU.refl (r : Nat) (U : St) : gU r U U := fun _ _ _ h => h
theorem gU.trans (h : gU r U bT) (k : gU r bT bR) : gU r U bR := fun b x n e => k b x n (h b x n e)
theorem cH.H6 (h : cH U ae) : gU r U ae := fun b x _ e => h b x e
theorem gU.bL (h : gU r U ae) (n : b ≠ r) (k : U.box b = some l) : ae.box b = some l := by
 cases e : U.live b with
 | none => simp [St.box, e] at k
 | some x => rw [fW ((h b x n e).trans e.symm)]; exact k
theorem gU.tok (h : gU r U ae) {t : Tok} (n : b ≠ r) (k : U.tok b = some t) : ae.tok b = some t := by
 cases e : U.live b with
 | none => simp [St.tok, e] at k
 | some x => rw [xA ((h b x n e).trans e.symm)]; exact k
theorem cH.bL (h : cH U ae) (k : U.box b = some l) : ae.box b = some l := by
 cases e : U.live b with
 | none => simp [St.box, e] at k
 | some x => rw [fW ((h b x e).trans e.symm)]; exact k
theorem cH.tok (h : cH U ae) {t : Tok} (k : U.tok b = some t) : ae.tok b = some t := by
 cases e : U.live b with
 | none => simp [St.tok, e] at k
 | some x => rw [xA ((h b x e).trans e.symm)]; exact k
theorem bH (h : U.cN b) : cH U (U.new b x) := fun c y e => by
 rw [lA]; split
 · rename_i n; subst n; rw [h.1] at e; cases e
 · exact e
theorem gU.set (h : gU r U ae) (n : U.live b = none \/ b = r) : gU r U (ae.set b x) := fun c y m e => by
 rw [eM]; split
 · rename_i k; subst k
   rcases n with n | n
   · rw [n] at e; cases e
   · exact absurd n m
 · exact h c y m e
theorem cH.set (h : cH U ae) (n : U.live b = none) : cH U (ae.set b x) := fun c y e => by
 rw [eM]; split
 · rename_i k; subst k; rw [n] at e; cases e
 · exact h c y e
theorem gU.del (h : gU r U ae) (n : U.live b = none \/ b = r) : gU r U (ae.del b) := fun c y m e => by
 rw [na]; split
 · rename_i k; subst k
   rcases n with n | n
   · rw [n] at e; cases e
   · exact absurd n m
 · exact h c y m e
theorem cH.del (h : cH U ae) (n : U.live b = none) : cH U (ae.del b) := fun c y e => by
 rw [na]; split
 · rename_i k; subst k; rw [n] at e; cases e
 · exact h c y e
theorem gU.new (h : gU r U ae) (n : ae.cN b) : gU r U (ae.new b x) := h.trans (bH n).H6
theorem cH.new (h : cH U ae) (n : ae.cN b) : cH U (ae.new b x) := h.trans (bH n)
theorem cH.fresh (h : cH U ae) (n : ae.live b = none) : U.live b = none := by
 cases e : U.live b with
 | none => rfl
 | some x => rw [h b x e] at n; cases n
theorem gU.fresh (h : gU r U ae) (m : b ≠ r) (n : ae.live b = none) : U.live b = none := by
 cases e : U.live b with
 | none => rfl
 | some x => rw [h b x m e] at n; cases n
structure eX (r : Nat) (l : List AV) (U ae : St) : Prop where
 box : ae.box r = some l
 ex : gU r U ae
theorem eX.trans (h : eX r l U bT) (k : eX r l' bT bR) : eX r l' U bR := ⟨k.box, h.ex.trans k.ex⟩
theorem eX.px (h : U.box r = some l) (k : cH U ae) : eX r l U ae := ⟨k.bL h, k.H6⟩
end
section
variable {U : St} {b o n : Nat} {L : List AV} {v : AV}
theorem ld (h : U.box b = some L) (n o : Nat) : ao (some (false, n)) (.box b o) U = fT (L.drop o) := qs h n o
theorem Je (h : U.box b = some L) (n o : Nat) : ao (some (true, n)) (.box b o) U = .cond (n <= (L.drop o).length) (.val (.agg ((L.drop o).take n))) := Jm h n o
theorem vT (h : U.box b = some L) (t : Bool) (n o : Nat) (v : AV) : aQ (some (t, n)) (.box b o) v U = .cond (v.cS = true /\ (aA v).length = n /\ o + n <= L.length) (.jD (.aO []) b (.box (aH L o (aA v)))) := jX h t n o v
end
@[simp] theorem Hb {vt : Option (Bool × Nat)} {p v : AV} {U : St} {k : AV -> Prop} (h : ao vt p U = .val v) : bF vt p U k = k v := by simp [bF, h]
theorem rS {vt : Option (Bool × Nat)} {p v : AV} {U : St} {k : AV -> Prop} {q : Prop} [Decidable q] (h : ao vt p U = .cond q (.val v)) : bF vt p U k = (q /\ k v) := by simp [bF, h]
section
variable {C : cr} {U τ : St} {K : AV -> St -> Prop} {Kp : AV -> St -> Prop} {k : AV -> Prop} {b o n sz e : Nat} {t : Bool} {L : List AV} {v : AV}
theorem dD (h : U.box b = some L) : (aQ (some (t, n)) (.box b o) v U).wp C U K Kp = ((v.cS = true /\ (aA v).length = n /\ o + n <= L.length) /\ K (.aO []) (U.set b (.box (aH L o (aA v))))) := by
 rw [vT h]; rfl
theorem fh (h : U.box b = some L) : (ao (some (false, n)) (.box b o) U).wp C τ K Kp = (fT (L.drop o)).wp C τ K Kp := by rw [ld h]
theorem lD (h : U.box b = some L) : az C (ao (some (false, n)) (.box b o) U) k = az C (fT (L.drop o)) k := by rw [ld h]
theorem rD (h : U.box b = some L) : (ao (some (true, n)) (.box b o) U).wp C τ K Kp = (n <= (L.drop o).length /\ K (.agg ((L.drop o).take n)) τ) := by rw [Je h]; rfl
theorem Qa (h : U.box b = some L) : az C (ao (some (true, n)) (.box b o) U) k = (n <= (L.drop o).length /\ k (.agg ((L.drop o).take n))) := by rw [Je h]; rfl
theorem wB (h : U.box b = some L) : bF (some (true, n)) (.box b o) U k = (n <= (L.drop o).length /\ k (.agg ((L.drop o).take n))) := by rw [rS (Je h n o)]
theorem DL {x : AV} {l : List AV} (h : U.box b = some L) (hd : L.drop o = x :: l) : bF (some (false, n)) (.box b o) U k = k x := by
 rw [Hb]; rw [ld h, hd]; rfl
theorem bB {x : AV} {l : List AV} : (fT (x :: l)).wp C U K Kp = K x U := rfl
theorem eQ {x : AV} {l : List AV} : az C (fT (x :: l)) k = k x := rfl
theorem og : (ao (some (false, n)) (.cj L) U).wp C τ K Kp = (fT L).wp C τ K Kp := rfl
theorem kJ : az C (ao (some (false, n)) (.cj L) U) k = az C (fT L) k := rfl
theorem AF : (ao (some (true, n)) (.cj L) U).wp C τ K Kp = (n <= L.length /\ K (.agg (L.take n)) τ) := rfl
theorem R2 : az C (ao (some (true, n)) (.cj L) U) k = (n <= L.length /\ k (.agg (L.take n))) := rfl
theorem cn {bt : BT} {l : Bool} {x y : Int} : (ak .add bt l (.int .i64 x) (.int .i64 y)).wp C U K Kp = (uu (x + y) /\ K (.int .i64 (x + y)) U) := by simp only [js, dp]; rfl
theorem tU {bt : BT} {l : Bool} {x y : Int} : az C (ak .add bt l (.int .i64 x) (.int .i64 y)) k = (uu (x + y) /\ k (.int .i64 (x + y))) := by simp only [js, dp]; rfl
theorem Rc {bt : BT} {l : Bool} {x y : Int} : (ak .sub bt l (.int .i64 x) (.int .i64 y)).wp C U K Kp = (uu (x - y) /\ K (.int .i64 (x - y)) U) := by simp only [dH, dp]; rfl
theorem Ra {bt : BT} {l : Bool} {x y : Int} : (ak .mul bt l (.int .i64 x) (.int .i64 y)).wp C U K Kp = (uu (x * y) /\ K (.int .i64 (x * y)) U) := by simp only [El, dp]; rfl
theorem AG {at_ : Option (Nat × TypeId × Nat)} {c : iW} {i : IntKind} {j : Int} : (aF (some (e, sz)) at_ (.vec n c L) (.int i j)).wp C U K Kp = ((0 <= j /\ j < n) /\ K (.cj (L.drop (j.toNat * sz))) U) := rfl
theorem VJ {at_ : Option (Nat × TypeId × Nat)} {c : iW} {i : IntKind} {j : Int} : az C (aF (some (e, sz)) at_ (.vec n c L) (.int i j)) k = ((0 <= j /\ j < n) /\ k (.cj (L.drop (j.toNat * sz)))) := rfl
theorem zJ {at_ : Option (Nat × TypeId × Nat)} {i : IntKind} {j : Int} {z u : Nat} : (aF (some (e, sz)) at_ (.ms b o n z u) (.int i j)).wp C U K Kp = ((0 <= j /\ j < n /\ z = sz) /\ K (.box b (o + j.toNat * sz)) U) := rfl
theorem B2 {at_ : Option (Nat × TypeId × Nat)} {i : IntKind} {j : Int} {z u : Nat} : az C (aF (some (e, sz)) at_ (.ms b o n z u) (.int i j)) k = ((0 <= j /\ j < n /\ z = sz) /\ k (.box b (o + j.toNat * sz))) := rfl
theorem um {at_ : Option (Nat × TypeId × Nat)} {vt : Option (Bool × Nat)} {s : List UInt8} {i : IntKind} {j : Int} : (ey true at_ vt (.str s) (.int i j)).wp C U K Kp = ((0 <= j /\ j < s.length) /\ K (.int .u8 (s.getD j.toNat 0).toNat) U) := by rw [Be]; rfl
theorem tV {at_ : Option (Nat × TypeId × Nat)} {vt : Option (Bool × Nat)} {s : List UInt8} {i : IntKind} {j : Int} : az C (ey true at_ vt (.str s) (.int i j)) k = ((0 <= j /\ j < s.length) /\ k (.int .u8 (s.getD j.toNat 0).toNat)) := by rw [Be]; rfl
theorem dO (h : v.cS = true) : (dZ v).wp C U K Kp = ∀ b, U.cN b -> K (.box b 0) (U.new b (.box (aA v))) := by
 rw [AK _ h]; simp only [wp_cond, true_and]; rfl
theorem dQ : (av.c7 L).wp C U K Kp = ∀ b, U.cN b -> K (.box b 0) (U.new b (.box L)) := rfl
theorem fI {z : List AV} {ps : List (Nat × AV)} : (aM (some (e, sz)) (some z) n false ps).wp C U K Kp = (n * sz <= 16777216 /\ (eO (fun i => some (i * sz, sz)) ps (bN n z) fun cs => .cond (cs.length = n * sz) (.val (.vec n .full cs))).wp C U K Kp) := by
 simp only [aM, bm, if_false]; rfl
theorem x6 {z : List AV} {ps : List (Nat × AV)} : az C (aM (some (e, sz)) (some z) n false ps) k = (n * sz <= 16777216 /\ az C (eO (fun i => some (i * sz, sz)) ps (bN n z) fun cs => .cond (cs.length = n * sz) (.val (.vec n .full cs))) k) := by
 simp only [aM, bm, if_false]; rfl
theorem eR {pl : Nat -> Option (Nat × Nat)} {i s : Nat} {x : AV} {rest : List (Nat × AV)} {f : List AV -> av} (h : pl i = some (o, s)) : (eO pl ((i, x) :: rest) L f).wp C U K Kp = ((x.cS = true /\ (aA x).length = s /\ o + s <= L.length) /\ (eO pl rest (aH L o (aA x)) f).wp C U K Kp) := by
 simp only [eO, h]; rfl
theorem vJ {pl : Nat -> Option (Nat × Nat)} {i s : Nat} {x : AV} {rest : List (Nat × AV)} {f : List AV -> av} (h : pl i = some (o, s)) : az C (eO pl ((i, x) :: rest) L f) k = ((x.cS = true /\ (aA x).length = s /\ o + s <= L.length) /\ az C (eO pl rest (aH L o (aA x)) f) k) := by
 simp only [eO, h]; rfl
theorem Sn {pl : Nat -> Option (Nat × Nat)} : (eO pl [] L fun z => .val (.agg z)).wp C U K Kp = K (.agg L) U := rfl
theorem gQ {pl : Nat -> Option (Nat × Nat)} {m : Nat} : (eO pl [] L fun cs => .cond (cs.length = m) (.val (.vec n .full cs))).wp C U K Kp = (L.length = m /\ K (.vec n .full L) U) := rfl
theorem Ap {pl : Nat -> Option (Nat × Nat)} {m : Nat} : az C (eO pl [] L fun cs => .cond (cs.length = m) (.val (.vec n .full cs))) k = (L.length = m /\ k (.vec n .full L)) := rfl
def xJ : List (Nat × Nat) -> List (Nat × AV) -> List AV -> Option (List AV)
 | _, [], z => some z
 | pl, (i, x) :: rest, z => match pl[i]? with
   | some (o, s) => if x.cS = true /\ (aA x).length = s /\ o + s <= z.length then xJ pl rest (aH z o (aA x)) else none
   | none => none
theorem AJ : ∀ {pl : List (Nat × Nat)} {ps : List (Nat × AV)} {z zs : List AV}, xJ pl ps z = some zs -> K (.agg zs) U -> (eO (fun i => pl[i]?) ps z fun z => .val (.agg z)).wp C U K Kp
 | pl, [], z, zs, h, hk => by cases h; exact hk
 | pl, (i, x) :: rest, z, zs, h, hk => by
   simp only [xJ] at h
   split at h
   · rename_i o s e
     split at h
     · rename_i hc; rw [eR e]; exact ⟨hc, AJ h hk⟩
     · cases h
   · cases h
theorem oZ {pl : List (Nat × Nat)} {at_ : Option (Nat × TypeId × Nat)} {ps : List (Nat × AV)} (zs : List AV) (h : xJ pl ps L = some zs) (hk : K (.agg zs) U) : (c6 (some pl) (some L) at_ ps).wp C U K Kp := AJ h hk
end
def mL (t : Tk) : List AV := [.int .u8 t.k, .str t.s, .int .i64 t.at_]
def gx (L : List Tk) : List AV := L.flatMap mL
def dX (v : AV) (n : Nat) (cs : List AV) : Prop := (n = 0 /\ cs = [] /\ v = .ax) \/ ∃ c, v = .vec n c cs
theorem MB (L : List Tk) (i : Nat) : (gx L).drop (i * 3) = gx (L.drop i) := by
 induction L generalizing i with
 | nil => simp [gx]
 | cons t L ih =>
   cases i with
   | zero => simp
   | succ i =>
     rw [Nat.add_mul, show i * 3 + 1 * 3 = 3 + i * 3 by omega, <- List.drop_drop, List.drop_succ_cons, <- ih]
     rfl
theorem Ay {L : List Tk} {i : Nat} {t : Tk} (h : L[i]? = some t) : ∃ r, (gx L).drop (i * 3) = mL t ++ r := by
 rw [MB, gp (dy.1 h).1]
 refine ⟨gx (L.drop (i + 1)), ?_⟩
 have := (dy.1 h).2
 simp [gx, this]
end Go.Rip
