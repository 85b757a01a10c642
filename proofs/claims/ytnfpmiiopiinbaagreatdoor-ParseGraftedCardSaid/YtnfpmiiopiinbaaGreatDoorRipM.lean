/- Lemmas for the proof: no conditions. -/
import Derived.Test.YtnfpmiiopiinbaaGreatDoorRipZz
import Derived.Test.YtnfpmiiopiinbaaGreatDoorRipC
import Derived.Test.YtnfpmiiopiinbaaGreatDoorRipD
import Derived.Test.YtnfpmiiopiinbaaGreatDoorRipI
set_option linter.unusedVariables false
set_option linter.unusedSimpArgs false
set_option linter.loopingSimpArgs false
namespace Go.Rip
open Go.RowKit
section
variable {U ad bH bJ : St} {b b' r : Nat} {x y : Live} {l l' L : List AV}
theorem dL : (U.set b x).live b' = if b' = b then some x else U.live b' := rfl
theorem lZ : (U.new b x).live b' = if b' = b then some x else U.live b' := rfl
theorem nF : (U.del b).live b' = if b' = b then none else U.live b' := rfl
theorem aR : (U.set b (.box l)).box b = some l := by simp [St.box, dL]
theorem aD : (U.new b (.box l)).box b = some l := by simp [St.box, lZ]
theorem aE (h : b' ≠ b) : (U.set b x).box b' = U.box b' := by simp [St.box, dL, h]
theorem jt (h : b' ≠ b) : (U.new b x).box b' = U.box b' := by simp [St.box, lZ, h]
theorem iq (h : b' ≠ b) : (U.del b).box b' = U.box b' := by simp [St.box, nF, h]
theorem yw {t : Tok} : (U.new b (.tok t)).tok b = some t := by simp [St.tok, lZ]
theorem iy (h : b' ≠ b) : (U.set b x).tok b' = U.tok b' := by simp [St.tok, dL, h]
theorem bR (h : U.box b = some l) : U.live b ≠ none := by
 intro e; simp [St.box, e] at h
theorem K4 {t : Tok} (h : U.tok b = some t) : U.live b ≠ none := by
 intro e; simp [St.tok, e] at h
theorem eU {t : Tok} (h : U.box b = some l) (k : U.tok b' = some t) : b ≠ b' := by
 rintro rfl
 unfold St.box at h; unfold St.tok at k
 split at k
 · rename_i e; simp [e] at h
 · cases k
theorem St.cB.cn (h : U.cB b) (k : U.box b' = some l) : b' ≠ b := by
 rintro rfl; exact bR k h.1
theorem fZ (h : ad.live b = U.live b) : ad.box b = U.box b := by simp [St.box, h]
theorem qX (h : ad.live b = U.live b) : ad.tok b = U.tok b := by simp [St.tok, h]
def gr (r : Nat) (U ad : St) : Prop := ∀ b x, b ≠ r -> U.live b = some x -> ad.live b = some x
def cm (U ad : St) : Prop := ∀ b x, U.live b = some x -> ad.live b = some x
theorem cm.refl (U : St) : cm U U := fun _ _ h => h
theorem cm.trans (h : cm U bH) (k : cm bH bJ) : cm U bJ := fun b x e => k b x (h b x e)
theorem gr.refl (r : Nat) (U : St) : gr r U U := fun _ _ _ h => h
theorem gr.trans (h : gr r U bH) (k : gr r bH bJ) : gr r U bJ := fun b x n e => k b x n (h b x n e)
theorem cm.HF (h : cm U ad) : gr r U ad := fun b x _ e => h b x e
theorem gr.bf (h : gr r U ad) (n : b ≠ r) (k : U.box b = some l) : ad.box b = some l := by
 cases e : U.live b with
 | none => simp [St.box, e] at k
 | some x => rw [fZ ((h b x n e).trans e.symm)]; exact k
theorem gr.tok (h : gr r U ad) {t : Tok} (n : b ≠ r) (k : U.tok b = some t) : ad.tok b = some t := by
 cases e : U.live b with
 | none => simp [St.tok, e] at k
 | some x => rw [qX ((h b x n e).trans e.symm)]; exact k
theorem cm.bf (h : cm U ad) (k : U.box b = some l) : ad.box b = some l := by
 cases e : U.live b with
 | none => simp [St.box, e] at k
 | some x => rw [fZ ((h b x e).trans e.symm)]; exact k
theorem cm.tok (h : cm U ad) {t : Tok} (k : U.tok b = some t) : ad.tok b = some t := by
 cases e : U.live b with
 | none => simp [St.tok, e] at k
 | some x => rw [qX ((h b x e).trans e.symm)]; exact k
theorem bj (h : U.cB b) : cm U (U.new b x) := fun c y e => by
 rw [lZ]; split
 · rename_i n; subst n; rw [h.1] at e; cases e
 · exact e
theorem gr.set (h : gr r U ad) (n : U.live b = none \/ b = r) : gr r U (ad.set b x) := fun c y m e => by
 rw [dL]; split
 · rename_i k; subst k
   rcases n with n | n
   · rw [n] at e; cases e
   · exact absurd n m
 · exact h c y m e
theorem cm.set (h : cm U ad) (n : U.live b = none) : cm U (ad.set b x) := fun c y e => by
 rw [dL]; split
 · rename_i k; subst k; rw [n] at e; cases e
 · exact h c y e
theorem gr.del (h : gr r U ad) (n : U.live b = none \/ b = r) : gr r U (ad.del b) := fun c y m e => by
 rw [nF]; split
 · rename_i k; subst k
   rcases n with n | n
   · rw [n] at e; cases e
   · exact absurd n m
 · exact h c y m e
theorem cm.del (h : cm U ad) (n : U.live b = none) : cm U (ad.del b) := fun c y e => by
 rw [nF]; split
 · rename_i k; subst k; rw [n] at e; cases e
 · exact h c y e
theorem gr.new (h : gr r U ad) (n : ad.cB b) : gr r U (ad.new b x) := h.trans (bj n).HF
theorem cm.new (h : cm U ad) (n : ad.cB b) : cm U (ad.new b x) := h.trans (bj n)
theorem cm.fresh (h : cm U ad) (n : ad.live b = none) : U.live b = none := by
 cases e : U.live b with
 | none => rfl
 | some x => rw [h b x e] at n; cases n
theorem gr.fresh (h : gr r U ad) (m : b ≠ r) (n : ad.live b = none) : U.live b = none := by
 cases e : U.live b with
 | none => rfl
 | some x => rw [h b x m e] at n; cases n
structure eo (r : Nat) (l : List AV) (U ad : St) : Prop where
 box : ad.box r = some l
 ex : gr r U ad
theorem eo.trans (h : eo r l U bH) (k : eo r l' bH bJ) : eo r l' U bJ := ⟨k.box, h.ex.trans k.ex⟩
theorem eo.oK (h : U.box r = some l) (k : cm U ad) : eo r l U ad := ⟨k.bf h, k.HF⟩
end
section
variable {U : St} {b o n : Nat} {L : List AV} {v : AV}
theorem ld (h : U.box b = some L) (n o : Nat) : aq (some (false, n)) (.box b o) U = fl (L.drop o) := pD h n o
theorem Iu (h : U.box b = some L) (n o : Nat) : aq (some (true, n)) (.box b o) U = .cond (n <= (L.drop o).length) (.val (.agg ((L.drop o).take n))) := IB h n o
theorem uZ (h : U.box b = some L) (t : Bool) (n o : Nat) (v : AV) : aF (some (t, n)) (.box b o) v U = .cond (v.cC = true /\ (au v).length = n /\ o + n <= L.length) (.iN (.aN []) b (.box (aw L o (au v)))) := jr h t n o v
end
@[simp] theorem Gp {vt : Option (Bool × Nat)} {p v : AV} {U : St} {k : AV -> Prop} (h : aq vt p U = .val v) : bA vt p U k = k v := by simp [bA, h]
theorem qO {vt : Option (Bool × Nat)} {p v : AV} {U : St} {k : AV -> Prop} {q : Prop} [Decidable q] (h : aq vt p U = .cond q (.val v)) : bA vt p U k = (q /\ k v) := by simp [bA, h]
section
variable {C : bX} {U τ : St} {K : AV -> St -> Prop} {Kp : AV -> St -> Prop} {k : AV -> Prop} {b o n sz e : Nat} {t : Bool} {L : List AV} {v : AV}
theorem cF (h : U.box b = some L) : (aF (some (t, n)) (.box b o) v U).wp C U K Kp = ((v.cC = true /\ (au v).length = n /\ o + n <= L.length) /\ K (.aN []) (U.set b (.box (aw L o (au v))))) := by
 rw [uZ h]; rfl
theorem fe (h : U.box b = some L) : (aq (some (false, n)) (.box b o) U).wp C τ K Kp = (fl (L.drop o)).wp C τ K Kp := by rw [ld h]
theorem oD (h : U.box b = some L) : ai C (aq (some (false, n)) (.box b o) U) k = ai C (fl (L.drop o)) k := by rw [ld h]
theorem nZ (h : U.box b = some L) : (aq (some (true, n)) (.box b o) U).wp C τ K Kp = (n <= (L.drop o).length /\ K (.agg ((L.drop o).take n)) τ) := by rw [Iu h]; rfl
theorem sT (h : U.box b = some L) : ai C (aq (some (true, n)) (.box b o) U) k = (n <= (L.drop o).length /\ k (.agg ((L.drop o).take n))) := by rw [Iu h]; rfl
theorem nV (h : U.box b = some L) : bA (some (true, n)) (.box b o) U k = (n <= (L.drop o).length /\ k (.agg ((L.drop o).take n))) := by rw [qO (Iu h n o)]
theorem CW {x : AV} {l : List AV} (h : U.box b = some L) (hd : L.drop o = x :: l) : bA (some (false, n)) (.box b o) U k = k x := by
 rw [Gp]; rw [ld h, hd]; rfl
theorem bB {x : AV} {l : List AV} : (fl (x :: l)).wp C U K Kp = K x U := rfl
theorem fP {x : AV} {l : List AV} : ai C (fl (x :: l)) k = k x := rfl
theorem ox : (aq (some (false, n)) (.bY L) U).wp C τ K Kp = (fl L).wp C τ K Kp := rfl
theorem mY : ai C (aq (some (false, n)) (.bY L) U) k = ai C (fl L) k := rfl
theorem zF : (aq (some (true, n)) (.bY L) U).wp C τ K Kp = (n <= L.length /\ K (.agg (L.take n)) τ) := rfl
theorem zo : ai C (aq (some (true, n)) (.bY L) U) k = (n <= L.length /\ k (.agg (L.take n))) := rfl
theorem c8 {bt : BT} {l : Bool} {x y : Int} : (av .add bt l (.int .i64 x) (.int .i64 y)).wp C U K Kp = (pX (x + y) /\ K (.int .i64 (x + y)) U) := by simp only [iC, db]; rfl
theorem o0 {bt : BT} {l : Bool} {x y : Int} : ai C (av .add bt l (.int .i64 x) (.int .i64 y)) k = (pX (x + y) /\ k (.int .i64 (x + y))) := by simp only [iC, db]; rfl
theorem Wi {bt : BT} {l : Bool} {x y : Int} : (av .sub bt l (.int .i64 x) (.int .i64 y)).wp C U K Kp = (pX (x - y) /\ K (.int .i64 (x - y)) U) := by simp only [dP, db]; rfl
theorem VN {bt : BT} {l : Bool} {x y : Int} : ai C (av .sub bt l (.int .i64 x) (.int .i64 y)) k = (pX (x - y) /\ k (.int .i64 (x - y))) := by simp only [dP, db]; rfl
theorem Wh {bt : BT} {l : Bool} {x y : Int} : (av .mul bt l (.int .i64 x) (.int .i64 y)).wp C U K Kp = (pX (x * y) /\ K (.int .i64 (x * y)) U) := by simp only [Dv, db]; rfl
theorem Dp {at_ : Option (Nat × TypeId × Nat)} {c : hX} {i : IntKind} {j : Int} : (aP (some (e, sz)) at_ (.vec n c L) (.int i j)).wp C U K Kp = ((0 <= j /\ j < n) /\ K (.bY (L.drop (j.toNat * sz))) U) := rfl
theorem S8 {at_ : Option (Nat × TypeId × Nat)} {c : hX} {i : IntKind} {j : Int} : ai C (aP (some (e, sz)) at_ (.vec n c L) (.int i j)) k = ((0 <= j /\ j < n) /\ k (.bY (L.drop (j.toNat * sz)))) := rfl
theorem Bg {at_ : Option (Nat × TypeId × Nat)} {i : IntKind} {j : Int} {z u : Nat} : (aP (some (e, sz)) at_ (.ms b o n z u) (.int i j)).wp C U K Kp = ((0 <= j /\ j < n /\ z = sz) /\ K (.box b (o + j.toNat * sz)) U) := rfl
theorem GD {at_ : Option (Nat × TypeId × Nat)} {i : IntKind} {j : Int} {z u : Nat} : ai C (aP (some (e, sz)) at_ (.ms b o n z u) (.int i j)) k = ((0 <= j /\ j < n /\ z = sz) /\ k (.box b (o + j.toNat * sz))) := rfl
theorem yJ {at_ : Option (Nat × TypeId × Nat)} {vt : Option (Bool × Nat)} {s : List UInt8} {i : IntKind} {j : Int} : (fD true at_ vt (.str s) (.int i j)).wp C U K Kp = ((0 <= j /\ j < s.length) /\ K (.int .u8 (s.getD j.toNat 0).toNat) U) := by rw [Ah]; rfl
theorem GF {at_ : Option (Nat × TypeId × Nat)} {vt : Option (Bool × Nat)} {s : List UInt8} {i : IntKind} {j : Int} : ai C (fD true at_ vt (.str s) (.int i j)) k = ((0 <= j /\ j < s.length) /\ k (.int .u8 (s.getD j.toNat 0).toNat)) := by rw [Ah]; rfl
theorem eC (h : v.cC = true) : (ez v).wp C U K Kp = ∀ b, U.cB b -> K (.box b 0) (U.new b (.box (au v))) := by
 rw [zM _ h]; simp only [wp_cond, true_and]; rfl
theorem cw : (aA.cj L).wp C U K Kp = ∀ b, U.cB b -> K (.box b 0) (U.new b (.box L)) := rfl
theorem gq {z : List AV} {ps : List (Nat × AV)} : (aH (some (e, sz)) (some z) n false ps).wp C U K Kp = (n * sz <= 16777216 /\ (ek (fun i => some (i * sz, sz)) ps (bw n z) fun cs => .cond (cs.length = n * sz) (.val (.vec n .full cs))).wp C U K Kp) := by
 simp only [aH, bu, if_false]; rfl
theorem sS {z : List AV} {ps : List (Nat × AV)} : ai C (aH (some (e, sz)) (some z) n false ps) k = (n * sz <= 16777216 /\ ai C (ek (fun i => some (i * sz, sz)) ps (bw n z) fun cs => .cond (cs.length = n * sz) (.val (.vec n .full cs))) k) := by
 simp only [aH, bu, if_false]; rfl
theorem eD {pl : Nat -> Option (Nat × Nat)} {i s : Nat} {x : AV} {rest : List (Nat × AV)} {f : List AV -> aA} (h : pl i = some (o, s)) : (ek pl ((i, x) :: rest) L f).wp C U K Kp = ((x.cC = true /\ (au x).length = s /\ o + s <= L.length) /\ (ek pl rest (aw L o (au x)) f).wp C U K Kp) := by
 simp only [ek, h]; rfl
theorem oh {pl : Nat -> Option (Nat × Nat)} {i s : Nat} {x : AV} {rest : List (Nat × AV)} {f : List AV -> aA} (h : pl i = some (o, s)) : ai C (ek pl ((i, x) :: rest) L f) k = ((x.cC = true /\ (au x).length = s /\ o + s <= L.length) /\ ai C (ek pl rest (aw L o (au x)) f) k) := by
 simp only [ek, h]; rfl
theorem Qi {pl : Nat -> Option (Nat × Nat)} : (ek pl [] L fun z => .val (.agg z)).wp C U K Kp = K (.agg L) U := rfl
theorem ib {pl : Nat -> Option (Nat × Nat)} {m : Nat} : (ek pl [] L fun cs => .cond (cs.length = m) (.val (.vec n .full cs))).wp C U K Kp = (L.length = m /\ K (.vec n .full L) U) := rfl
theorem vG {pl : Nat -> Option (Nat × Nat)} {m : Nat} : ai C (ek pl [] L fun cs => .cond (cs.length = m) (.val (.vec n .full cs))) k = (L.length = m /\ k (.vec n .full L)) := rfl
def wO : List (Nat × Nat) -> List (Nat × AV) -> List AV -> Option (List AV)
 | _, [], z => some z
 | pl, (i, x) :: rest, z => match pl[i]? with
   | some (o, s) => if x.cC = true /\ (au x).length = s /\ o + s <= z.length then wO pl rest (aw z o (au x)) else none
   | none => none
theorem zL : ∀ {pl : List (Nat × Nat)} {ps : List (Nat × AV)} {z zs : List AV}, wO pl ps z = some zs -> K (.agg zs) U -> (ek (fun i => pl[i]?) ps z fun z => .val (.agg z)).wp C U K Kp
 | pl, [], z, zs, h, hk => by cases h; exact hk
 | pl, (i, x) :: rest, z, zs, h, hk => by
   simp only [wO] at h
   split at h
   · rename_i o s e
     split at h
     · rename_i hc; rw [eD e]; exact ⟨hc, zL h hk⟩
     · cases h
   · cases h
theorem pc {pl : List (Nat × Nat)} {at_ : Option (Nat × TypeId × Nat)} {ps : List (Nat × AV)} (zs : List AV) (h : wO pl ps L = some zs) (hk : K (.agg zs) U) : (dV (some pl) (some L) at_ ps).wp C U K Kp := zL h hk
end
def lP (t : Tk) : List AV := [.int .u8 t.k, .str t.s, .int .i64 t.at_]
def fU (L : List Tk) : List AV := L.flatMap lP
def eN (v : AV) (n : Nat) (cs : List AV) : Prop := (n = 0 /\ cs = [] /\ v = .ag) \/ ∃ c, v = .vec n c cs
theorem KY (L : List Tk) (i : Nat) : (fU L).drop (i * 3) = fU (L.drop i) := by
 induction L generalizing i with
 | nil => simp [fU]
 | cons t L ih =>
   cases i with
   | zero => simp
   | succ i =>
     rw [Nat.add_mul, show i * 3 + 1 * 3 = 3 + i * 3 by omega, <- List.drop_drop, List.drop_succ_cons, <- ih]
     rfl
theorem zB {L : List Tk} {i : Nat} {t : Tk} (h : L[i]? = some t) : ∃ r, (fU L).drop (i * 3) = lP t ++ r := by
 rw [KY, gp (dx.1 h).1]
 refine ⟨fU (L.drop (i + 1)), ?_⟩
 have := (dx.1 h).2
 simp [fU, this]
end Go.Rip
