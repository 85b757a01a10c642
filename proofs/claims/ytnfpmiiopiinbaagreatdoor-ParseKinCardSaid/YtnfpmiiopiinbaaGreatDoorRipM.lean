/- Lemmas for the proof: no conditions. -/
import Derived.Test.YtnfpmiiopiinbaaGreatDoorRipZz
import Derived.Test.YtnfpmiiopiinbaaGreatDoorRipC
import Derived.Test.YtnfpmiiopiinbaaGreatDoorRipD
import Derived.Test.YtnfpmiiopiinbaaGreatDoorRipI
set_option linter.unusedVariables false
set_option linter.unusedSimpArgs false
set_option linter.loopingSimpArgs false
namespace Go.Rip
open Go.RowKit
section
variable {U ad bM bN : St} {b b' r : Nat} {x y : Live} {l l' L : List AV}
theorem dM : (U.set b x).live b' = if b' = b then some x else U.live b' := rfl
theorem lE : (U.new b x).live b' = if b' = b then some x else U.live b' := rfl
theorem lD : (U.del b).live b' = if b' = b then none else U.live b' := rfl
theorem aZ : (U.set b (.box l)).box b = some l := by simp [St.box, dM]
theorem aN : (U.new b (.box l)).box b = some l := by simp [St.box, lE]
theorem aP (h : b' ≠ b) : (U.set b x).box b' = U.box b' := by simp [St.box, dM, h]
theorem ma (h : b' ≠ b) : (U.new b x).box b' = U.box b' := by simp [St.box, lE, h]
theorem gi (h : b' ≠ b) : (U.del b).box b' = U.box b' := by simp [St.box, lD, h]
theorem xq {t : Tok} : (U.new b (.tok t)).tok b = some t := by simp [St.tok, lE]
theorem gn (h : b' ≠ b) : (U.set b x).tok b' = U.tok b' := by simp [St.tok, dM, h]
theorem Fz (h : b' ≠ b) : (U.del b).tok b' = U.tok b' := by simp [St.tok, lD, h]
theorem dy (h : U.box b = some l) : U.live b ≠ none := by
 intro e; simp [St.box, e] at h
theorem eh {t : Tok} (h : U.box b = some l) (k : U.tok b' = some t) : b ≠ b' := by
 rintro rfl
 unfold St.box at h; unfold St.tok at k
 split at k
 · rename_i e; simp [e] at h
 · cases k
theorem St.cj.ca (h : U.cj b) (k : U.box b' = some l) : b' ≠ b := by
 rintro rfl; exact dy k h.1
theorem eU (h : ad.live b = U.live b) : ad.box b = U.box b := by simp [St.box, h]
theorem vd (h : ad.live b = U.live b) : ad.tok b = U.tok b := by simp [St.tok, h]
def gb (r : Nat) (U ad : St) : Prop := ∀ b x, b ≠ r -> U.live b = some x -> ad.live b = some x
def cF (U ad : St) : Prop := ∀ b x, U.live b = some x -> ad.live b = some x
theorem cF.refl (U : St) : cF U U := fun _ _ h => h
theorem cF.trans (h : cF U bM) (k : cF bM bN) : cF U bN := fun b x e => k b x (h b x e)
theorem gb.refl (r : Nat) (U : St) : gb r U U := fun _ _ _ h => h
theorem gb.trans (h : gb r U bM) (k : gb r bM bN) : gb r U bN := fun b x n e => k b x n (h b x n e)
theorem cF.Gi (h : cF U ad) : gb r U ad := fun b x _ e => h b x e
theorem gb.bA (h : gb r U ad) (n : b ≠ r) (k : U.box b = some l) : ad.box b = some l := by
 cases e : U.live b with
 | none => simp [St.box, e] at k
 | some x => rw [eU ((h b x n e).trans e.symm)]; exact k
theorem gb.tok (h : gb r U ad) {t : Tok} (n : b ≠ r) (k : U.tok b = some t) : ad.tok b = some t := by
 cases e : U.live b with
 | none => simp [St.tok, e] at k
 | some x => rw [vd ((h b x n e).trans e.symm)]; exact k
theorem cF.bA (h : cF U ad) (k : U.box b = some l) : ad.box b = some l := by
 cases e : U.live b with
 | none => simp [St.box, e] at k
 | some x => rw [eU ((h b x e).trans e.symm)]; exact k
theorem cF.tok (h : cF U ad) {t : Tok} (k : U.tok b = some t) : ad.tok b = some t := by
 cases e : U.live b with
 | none => simp [St.tok, e] at k
 | some x => rw [vd ((h b x e).trans e.symm)]; exact k
theorem bz (h : U.cj b) : cF U (U.new b x) := fun c y e => by
 rw [lE]; split
 · rename_i n; subst n; rw [h.1] at e; cases e
 · exact e
theorem gb.set (h : gb r U ad) (n : U.live b = none \/ b = r) : gb r U (ad.set b x) := fun c y m e => by
 rw [dM]; split
 · rename_i k; subst k
   rcases n with n | n
   · rw [n] at e; cases e
   · exact absurd n m
 · exact h c y m e
theorem cF.set (h : cF U ad) (n : U.live b = none) : cF U (ad.set b x) := fun c y e => by
 rw [dM]; split
 · rename_i k; subst k; rw [n] at e; cases e
 · exact h c y e
theorem gb.del (h : gb r U ad) (n : U.live b = none \/ b = r) : gb r U (ad.del b) := fun c y m e => by
 rw [lD]; split
 · rename_i k; subst k
   rcases n with n | n
   · rw [n] at e; cases e
   · exact absurd n m
 · exact h c y m e
theorem cF.del (h : cF U ad) (n : U.live b = none) : cF U (ad.del b) := fun c y e => by
 rw [lD]; split
 · rename_i k; subst k; rw [n] at e; cases e
 · exact h c y e
theorem gb.new (h : gb r U ad) (n : ad.cj b) : gb r U (ad.new b x) := h.trans (bz n).Gi
theorem cF.new (h : cF U ad) (n : ad.cj b) : cF U (ad.new b x) := h.trans (bz n)
theorem cF.fresh (h : cF U ad) (n : ad.live b = none) : U.live b = none := by
 cases e : U.live b with
 | none => rfl
 | some x => rw [h b x e] at n; cases n
theorem gb.fresh (h : gb r U ad) (m : b ≠ r) (n : ad.live b = none) : U.live b = none := by
 cases e : U.live b with
 | none => rfl
 | some x => rw [h b x m e] at n; cases n
structure ef (r : Nat) (l : List AV) (U ad : St) : Prop where
 box : ad.box r = some l
 ex : gb r U ad
theorem ef.trans (h : ef r l U bM) (k : ef r l' bM bN) : ef r l' U bN := ⟨k.box, h.ex.trans k.ex⟩
theorem ef.nQ (h : U.box r = some l) (k : cF U ad) : ef r l U ad := ⟨k.bA h, k.Gi⟩
end
section
variable {U : St} {b o n : Nat} {L : List AV} {v : AV}
theorem ld (h : U.box b = some L) (n o : Nat) : ao (some (false, n)) (.box b o) U = eR (L.drop o) := oP h n o
theorem G9 (h : U.box b = some L) (n o : Nat) : ao (some (true, n)) (.box b o) U = .cond (n <= (L.drop o).length) (.val (.agg ((L.drop o).take n))) := Hf h n o
theorem tY (h : U.box b = some L) (t : Bool) (n o : Nat) (v : AV) : aM (some (t, n)) (.box b o) v U = .cond (v.cr = true /\ (au v).length = n /\ o + n <= L.length) (.ir (.aL []) b (.box (aB L o (au v)))) := iZ h t n o v
end
@[simp] theorem EZ {vt : Option (Bool × Nat)} {p v : AV} {U : St} {k : AV -> Prop} (h : ao vt p U = .val v) : bI vt p U k = k v := by simp [bI, h]
theorem pZ {vt : Option (Bool × Nat)} {p v : AV} {U : St} {k : AV -> Prop} {q : Prop} [Decidable q] (h : ao vt p U = .cond q (.val v)) : bI vt p U k = (q /\ k v) := by simp [bI, h]
section
variable {C : bQ} {U τ : St} {K : AV -> St -> Prop} {Kp : AV -> St -> Prop} {k : AV -> Prop} {b o n sz e : Nat} {t : Bool} {L : List AV} {v : AV}
theorem dh (h : U.box b = some L) : (aM (some (t, n)) (.box b o) v U).wp C U K Kp = ((v.cr = true /\ (au v).length = n /\ o + n <= L.length) /\ K (.aL []) (U.set b (.box (aB L o (au v))))) := by
 rw [tY h]; rfl
theorem eK (h : U.box b = some L) : (ao (some (false, n)) (.box b o) U).wp C τ K Kp = (eR (L.drop o)).wp C τ K Kp := by rw [ld h]
theorem nJ (h : U.box b = some L) : av C (ao (some (false, n)) (.box b o) U) k = av C (eR (L.drop o)) k := by rw [ld h]
theorem pO (h : U.box b = some L) : (ao (some (true, n)) (.box b o) U).wp C τ K Kp = (n <= (L.drop o).length /\ K (.agg ((L.drop o).take n)) τ) := by rw [G9 h]; rfl
theorem w9 (h : U.box b = some L) : av C (ao (some (true, n)) (.box b o) U) k = (n <= (L.drop o).length /\ k (.agg ((L.drop o).take n))) := by rw [G9 h]; rfl
theorem xf (h : U.box b = some L) : bI (some (true, n)) (.box b o) U k = (n <= (L.drop o).length /\ k (.agg ((L.drop o).take n))) := by rw [pZ (G9 h n o)]
theorem BO {x : AV} {l : List AV} (h : U.box b = some L) (hd : L.drop o = x :: l) : bI (some (false, n)) (.box b o) U k = k x := by
 rw [EZ]; rw [ld h, hd]; rfl
theorem bD {x : AV} {l : List AV} : (eR (x :: l)).wp C U K Kp = K x U := rfl
theorem eP {x : AV} {l : List AV} : av C (eR (x :: l)) k = k x := rfl
theorem o8 : (ao (some (false, n)) (.bL L) U).wp C τ K Kp = (eR L).wp C τ K Kp := rfl
theorem lj : av C (ao (some (false, n)) (.bL L) U) k = av C (eR L) k := rfl
theorem yF : (ao (some (true, n)) (.bL L) U).wp C τ K Kp = (n <= L.length /\ K (.agg (L.take n)) τ) := rfl
theorem On : av C (ao (some (true, n)) (.bL L) U) k = (n <= L.length /\ k (.agg (L.take n))) := rfl
theorem cW {bt : BT} {l : Bool} {x y : Int} : (aw .add bt l (.int .i64 x) (.int .i64 y)).wp C U K Kp = (su (x + y) /\ K (.int .i64 (x + y)) U) := by simp only [hY, dI]; rfl
theorem zW {bt : BT} {l : Bool} {x y : Int} : av C (aw .add bt l (.int .i64 x) (.int .i64 y)) k = (su (x + y) /\ k (.int .i64 (x + y))) := by simp only [hY, dI]; rfl
theorem Un {bt : BT} {l : Bool} {x y : Int} : (aw .sub bt l (.int .i64 x) (.int .i64 y)).wp C U K Kp = (su (x - y) /\ K (.int .i64 (x - y)) U) := by simp only [fL, dI]; rfl
theorem Um {bt : BT} {l : Bool} {x y : Int} : (aw .mul bt l (.int .i64 x) (.int .i64 y)).wp C U K Kp = (su (x * y) /\ K (.int .i64 (x * y)) U) := by simp only [Cn, dI]; rfl
theorem L7 {at_ : Option (Nat × TypeId × Nat)} {c : ik} {i : IntKind} {j : Int} : (aJ (some (e, sz)) at_ (.vec n c L) (.int i j)).wp C U K Kp = ((0 <= j /\ j < n) /\ K (.bL (L.drop (j.toNat * sz))) U) := rfl
theorem Rp {at_ : Option (Nat × TypeId × Nat)} {c : ik} {i : IntKind} {j : Int} : av C (aJ (some (e, sz)) at_ (.vec n c L) (.int i j)) k = ((0 <= j /\ j < n) /\ k (.bL (L.drop (j.toNat * sz)))) := rfl
theorem si {at_ : Option (Nat × TypeId × Nat)} {i : IntKind} {j : Int} {z u : Nat} : (aJ (some (e, sz)) at_ (.ms b o n z u) (.int i j)).wp C U K Kp = ((0 <= j /\ j < n /\ z = sz) /\ K (.box b (o + j.toNat * sz)) U) := rfl
theorem Fj {at_ : Option (Nat × TypeId × Nat)} {i : IntKind} {j : Int} {z u : Nat} : av C (aJ (some (e, sz)) at_ (.ms b o n z u) (.int i j)) k = ((0 <= j /\ j < n /\ z = sz) /\ k (.box b (o + j.toNat * sz))) := rfl
theorem xG {at_ : Option (Nat × TypeId × Nat)} {vt : Option (Bool × Nat)} {s : List UInt8} {i : IntKind} {j : Int} : (ff true at_ vt (.str s) (.int i j)).wp C U K Kp = ((0 <= j /\ j < s.length) /\ K (.int .u8 (s.getD j.toNat 0).toNat) U) := by rw [za]; rfl
theorem Fk {at_ : Option (Nat × TypeId × Nat)} {vt : Option (Bool × Nat)} {s : List UInt8} {i : IntKind} {j : Int} : av C (ff true at_ vt (.str s) (.int i j)) k = ((0 <= j /\ j < s.length) /\ k (.int .u8 (s.getD j.toNat 0).toNat)) := by rw [za]; rfl
theorem eH (h : v.cr = true) : (eB v).wp C U K Kp = ∀ b, U.cj b -> K (.box b 0) (U.new b (.box (au v))) := by
 rw [yL _ h]; simp only [wp_cond, true_and]; rfl
theorem dv : (aA.cN L).wp C U K Kp = ∀ b, U.cj b -> K (.box b 0) (U.new b (.box L)) := rfl
theorem fG {z : List AV} {ps : List (Nat × AV)} : (aD (some (e, sz)) (some z) n false ps).wp C U K Kp = (n * sz <= 16777216 /\ (dY (fun i => some (i * sz, sz)) ps (bp n z) fun cs => .cond (cs.length = n * sz) (.val (.vec n .full cs))).wp C U K Kp) := by
 simp only [aD, bl, if_false]; rfl
theorem vM {z : List AV} {ps : List (Nat × AV)} : av C (aD (some (e, sz)) (some z) n false ps) k = (n * sz <= 16777216 /\ av C (dY (fun i => some (i * sz, sz)) ps (bp n z) fun cs => .cond (cs.length = n * sz) (.val (.vec n .full cs))) k) := by
 simp only [aD, bl, if_false]; rfl
theorem ee {pl : Nat -> Option (Nat × Nat)} {i s : Nat} {x : AV} {rest : List (Nat × AV)} {f : List AV -> aA} (h : pl i = some (o, s)) : (dY pl ((i, x) :: rest) L f).wp C U K Kp = ((x.cr = true /\ (au x).length = s /\ o + s <= L.length) /\ (dY pl rest (aB L o (au x)) f).wp C U K Kp) := by
 simp only [dY, h]; rfl
theorem tJ {pl : Nat -> Option (Nat × Nat)} {i s : Nat} {x : AV} {rest : List (Nat × AV)} {f : List AV -> aA} (h : pl i = some (o, s)) : av C (dY pl ((i, x) :: rest) L f) k = ((x.cr = true /\ (au x).length = s /\ o + s <= L.length) /\ av C (dY pl rest (aB L o (au x)) f) k) := by
 simp only [dY, h]; rfl
theorem OE {pl : Nat -> Option (Nat × Nat)} : (dY pl [] L fun z => .val (.agg z)).wp C U K Kp = K (.agg L) U := rfl
theorem gw {pl : Nat -> Option (Nat × Nat)} {m : Nat} : (dY pl [] L fun cs => .cond (cs.length = m) (.val (.vec n .full cs))).wp C U K Kp = (L.length = m /\ K (.vec n .full L) U) := rfl
theorem ym {pl : Nat -> Option (Nat × Nat)} {m : Nat} : av C (dY pl [] L fun cs => .cond (cs.length = m) (.val (.vec n .full cs))) k = (L.length = m /\ k (.vec n .full L)) := rfl
def xQ : List (Nat × Nat) -> List (Nat × AV) -> List AV -> Option (List AV)
 | _, [], z => some z
 | pl, (i, x) :: rest, z => match pl[i]? with
   | some (o, s) => if x.cr = true /\ (au x).length = s /\ o + s <= z.length then xQ pl rest (aB z o (au x)) else none
   | none => none
theorem yK : ∀ {pl : List (Nat × Nat)} {ps : List (Nat × AV)} {z zs : List AV}, xQ pl ps z = some zs -> K (.agg zs) U -> (dY (fun i => pl[i]?) ps z fun z => .val (.agg z)).wp C U K Kp
 | pl, [], z, zs, h, hk => by cases h; exact hk
 | pl, (i, x) :: rest, z, zs, h, hk => by
   simp only [xQ] at h
   split at h
   · rename_i o s e
     split at h
     · rename_i hc; rw [ee e]; exact ⟨hc, yK h hk⟩
     · cases h
   · cases h
theorem pc {pl : List (Nat × Nat)} {at_ : Option (Nat × TypeId × Nat)} {ps : List (Nat × AV)} (zs : List AV) (h : xQ pl ps L = some zs) (hk : K (.agg zs) U) : (dO (some pl) (some L) at_ ps).wp C U K Kp := yK h hk
end
def lk (t : Tk) : List AV := [.int .u8 t.k, .str t.s, .int .i64 t.at_]
def fF (L : List Tk) : List AV := L.flatMap lk
def eS (v : AV) (n : Nat) (cs : List AV) : Prop := (n = 0 /\ cs = [] /\ v = .aq) \/ ∃ c, v = .vec n c cs
theorem Jz (L : List Tk) (i : Nat) : (fF L).drop (i * 3) = fF (L.drop i) := by
 induction L generalizing i with
 | nil => simp [fF]
 | cons t L ih =>
   cases i with
   | zero => simp
   | succ i =>
     rw [Nat.add_mul, show i * 3 + 1 * 3 = 3 + i * 3 by omega, <- List.drop_drop, List.drop_succ_cons, <- ih]
     rfl
theorem yA {L : List Tk} {i : Nat} {t : Tk} (h : L[i]? = some t) : ∃ r, (fF L).drop (i * 3) = lk t ++ r := by
 rw [Jz, fT (cT.1 h).1]
 refine ⟨fF (L.drop (i + 1)), ?_⟩
 have := (cT.1 h).2
 simp [fF, this]
end Go.Rip
