/- Lemmas for the proof: no conditions. -/
import Derived.Test.YtnfpmiiopiinbaaGreatDoorRipZz
import Derived.Test.YtnfpmiiopiinbaaGreatDoorRipC
import Derived.Test.YtnfpmiiopiinbaaGreatDoorRipD
import Derived.Test.YtnfpmiiopiinbaaGreatDoorRipI
set_option linter.unusedVariables false
set_option linter.unusedSimpArgs false
set_option linter.loopingSimpArgs false
namespace Go.Rip
open Go.RowKit
section
variable {U ae bJ bP : St} {b b' r : Nat} {x y : Live} {l l' L : List AV}
theorem eS : (U.set b x).live b' = if b' = b then some x else U.live b' := rfl
theorem nD : (U.new b x).live b' = if b' = b then some x else U.live b' := rfl
theorem lU : (U.del b).live b' = if b' = b then none else U.live b' := rfl
theorem aT : (U.set b (.box l)).box b = some l := by simp [St.box, eS]
theorem aN : (U.new b (.box l)).box b = some l := by simp [St.box, nD]
theorem aP (h : b' ≠ b) : (U.set b x).box b' = U.box b' := by simp [St.box, eS, h]
theorem om (h : b' ≠ b) : (U.new b x).box b' = U.box b' := by simp [St.box, nD, h]
theorem jA (h : b' ≠ b) : (U.del b).box b' = U.box b' := by simp [St.box, lU, h]
theorem uX {t : Tok} : (U.new b (.tok t)).tok b = some t := by simp [St.tok, nD]
theorem gz (h : b' ≠ b) : (U.set b x).tok b' = U.tok b' := by simp [St.tok, eS, h]
theorem de (h : U.box b = some l) : U.live b ≠ none := by
 intro e; simp [St.box, e] at h
theorem Nv {t : Tok} (h : U.tok b = some t) : U.live b ≠ none := by
 intro e; simp [St.tok, e] at h
theorem ej {t : Tok} (h : U.box b = some l) (k : U.tok b' = some t) : b ≠ b' := by
 rintro rfl
 unfold St.box at h; unfold St.tok at k
 split at k
 · rename_i e; simp [e] at h
 · cases k
theorem St.cY.cx (h : U.cY b) (k : U.box b' = some l) : b' ≠ b := by
 rintro rfl; exact de k h.1
theorem gR (h : ae.live b = U.live b) : ae.box b = U.box b := by simp [St.box, h]
theorem sO (h : ae.live b = U.live b) : ae.tok b = U.tok b := by simp [St.tok, h]
def il (r : Nat) (U ae : St) : Prop := ∀ b x, b ≠ r -> U.live b = some x -> ae.live b = some x
def cL (U ae : St) : Prop := ∀ b x, U.live b = some x -> ae.live b = some x
theorem cL.refl (U : St) : cL U U := fun _ _ h => h
theorem cL.trans (h : cL U bJ) (k : cL bJ bP) : cL U bP := fun b x e => k b x (h b x e)
theorem il.refl (r : Nat) (U : St) : il r U U := fun _ _ _ h => h
theorem il.trans (h : il r U bJ) (k : il r bJ bP) : il r U bP := fun b x n e => k b x n (h b x n e)
theorem cL.I6 (h : cL U ae) : il r U ae := fun b x _ e => h b x e
theorem il.bj (h : il r U ae) (n : b ≠ r) (k : U.box b = some l) : ae.box b = some l := by
 cases e : U.live b with
 | none => simp [St.box, e] at k
 | some x => rw [gR ((h b x n e).trans e.symm)]; exact k
theorem il.tok (h : il r U ae) {t : Tok} (n : b ≠ r) (k : U.tok b = some t) : ae.tok b = some t := by
 cases e : U.live b with
 | none => simp [St.tok, e] at k
 | some x => rw [sO ((h b x n e).trans e.symm)]; exact k
theorem cL.bj (h : cL U ae) (k : U.box b = some l) : ae.box b = some l := by
 cases e : U.live b with
 | none => simp [St.box, e] at k
 | some x => rw [gR ((h b x e).trans e.symm)]; exact k
theorem cL.tok (h : cL U ae) {t : Tok} (k : U.tok b = some t) : ae.tok b = some t := by
 cases e : U.live b with
 | none => simp [St.tok, e] at k
 | some x => rw [sO ((h b x e).trans e.symm)]; exact k
theorem bE (h : U.cY b) : cL U (U.new b x) := fun c y e => by
 rw [nD]; split
 · rename_i n; subst n; rw [h.1] at e; cases e
 · exact e
theorem il.set (h : il r U ae) (n : U.live b = none \/ b = r) : il r U (ae.set b x) := fun c y m e => by
 rw [eS]; split
 · rename_i k; subst k
   rcases n with n | n
   · rw [n] at e; cases e
   · exact absurd n m
 · exact h c y m e
theorem cL.set (h : cL U ae) (n : U.live b = none) : cL U (ae.set b x) := fun c y e => by
 rw [eS]; split
 · rename_i k; subst k; rw [n] at e; cases e
 · exact h c y e
theorem il.del (h : il r U ae) (n : U.live b = none \/ b = r) : il r U (ae.del b) := fun c y m e => by
 rw [lU]; split
 · rename_i k; subst k
   rcases n with n | n
   · rw [n] at e; cases e
   · exact absurd n m
 · exact h c y m e
theorem cL.del (h : cL U ae) (n : U.live b = none) : cL U (ae.del b) := fun c y e => by
 rw [lU]; split
 · rename_i k; subst k; rw [n] at e; cases e
 · exact h c y e
theorem il.new (h : il r U ae) (n : ae.cY b) : il r U (ae.new b x) := h.trans (bE n).I6
theorem cL.new (h : cL U ae) (n : ae.cY b) : cL U (ae.new b x) := h.trans (bE n)
theorem cL.fresh (h : cL U ae) (n : ae.live b = none) : U.live b = none := by
 cases e : U.live b with
 | none => rfl
 | some x => rw [h b x e] at n; cases n
theorem il.fresh (h : il r U ae) (m : b ≠ r) (n : ae.live b = none) : U.live b = none := by
 cases e : U.live b with
 | none => rfl
 | some x => rw [h b x m e] at n; cases n
structure fg (r : Nat) (l : List AV) (U ae : St) : Prop where
 box : ae.box r = some l
 ex : il r U ae
theorem fg.trans (h : fg r l U bJ) (k : fg r l' bJ bP) : fg r l' U bP := ⟨k.box, h.ex.trans k.ex⟩
theorem fg.p6 (h : U.box r = some l) (k : cL U ae) : fg r l U ae := ⟨k.bj h, k.I6⟩
end
section
variable {U : St} {b o n : Nat} {L : List AV} {v : AV}
theorem ld (h : U.box b = some L) (n o : Nat) : ao (some (false, n)) (.box b o) U = gg (L.drop o) := qX h n o
theorem JW (h : U.box b = some L) (n o : Nat) : ao (some (true, n)) (.box b o) U = .cond (n <= (L.drop o).length) (.val (.agg ((L.drop o).take n))) := J4 h n o
theorem wK (h : U.box b = some L) (t : Bool) (n o : Nat) (v : AV) : aL (some (t, n)) (.box b o) v U = .cond (v.cQ = true /\ (ay v).length = n /\ o + n <= L.length) (.jQ (.aR []) b (.box (aB L o (ay v)))) := kr h t n o v
end
@[simp] theorem HU {vt : Option (Bool × Nat)} {p v : AV} {U : St} {k : AV -> Prop} (h : ao vt p U = .val v) : br vt p U k = k v := by simp [br, h]
theorem sF {vt : Option (Bool × Nat)} {p v : AV} {U : St} {k : AV -> Prop} {q : Prop} [Decidable q] (h : ao vt p U = .cond q (.val v)) : br vt p U k = (q /\ k v) := by simp [br, h]
section
variable {C : cw} {U τ : St} {K : AV -> St -> Prop} {Kp : AV -> St -> Prop} {k : AV -> Prop} {b o n sz e : Nat} {t : Bool} {L : List AV} {v : AV}
theorem cI (h : U.box b = some L) : (aL (some (t, n)) (.box b o) v U).wp C U K Kp = ((v.cQ = true /\ (ay v).length = n /\ o + n <= L.length) /\ K (.aR []) (U.set b (.box (aB L o (ay v))))) := by
 rw [wK h]; rfl
theorem fz (h : U.box b = some L) : (ao (some (false, n)) (.box b o) U).wp C τ K Kp = (gg (L.drop o)).wp C τ K Kp := by rw [ld h]
theorem lX (h : U.box b = some L) : aw C (ao (some (false, n)) (.box b o) U) k = aw C (gg (L.drop o)) k := by rw [ld h]
theorem qq (h : U.box b = some L) : (ao (some (true, n)) (.box b o) U).wp C τ K Kp = (n <= (L.drop o).length /\ K (.agg ((L.drop o).take n)) τ) := by rw [JW h]; rfl
theorem xk (h : U.box b = some L) : aw C (ao (some (true, n)) (.box b o) U) k = (n <= (L.drop o).length /\ k (.agg ((L.drop o).take n))) := by rw [JW h]; rfl
theorem lF (h : U.box b = some L) : br (some (true, n)) (.box b o) U k = (n <= (L.drop o).length /\ k (.agg ((L.drop o).take n))) := by rw [sF (JW h n o)]
theorem Ep {x : AV} {l : List AV} (h : U.box b = some L) (hd : L.drop o = x :: l) : br (some (false, n)) (.box b o) U k = k x := by
 rw [HU]; rw [ld h, hd]; rfl
theorem bM {x : AV} {l : List AV} : (gg (x :: l)).wp C U K Kp = K x U := rfl
theorem fM {x : AV} {l : List AV} : aw C (gg (x :: l)) k = k x := rfl
theorem mg : (ao (some (false, n)) (.ck L) U).wp C τ K Kp = (gg L).wp C τ K Kp := rfl
theorem oF : aw C (ao (some (false, n)) (.ck L) U) k = aw C (gg L) k := rfl
theorem xA : (ao (some (true, n)) (.ck L) U).wp C τ K Kp = (n <= L.length /\ K (.agg (L.take n)) τ) := rfl
theorem Sy : aw C (ao (some (true, n)) (.ck L) U) k = (n <= L.length /\ k (.agg (L.take n))) := rfl
theorem cg {bt : BT} {l : Bool} {x y : Int} : (aj .add bt l (.int .i64 x) (.int .i64 y)).wp C U K Kp = (u9 (x + y) /\ K (.int .i64 (x + y)) U) := by simp only [jH, dC]; rfl
theorem sa {bt : BT} {l : Bool} {x y : Int} : aw C (aj .add bt l (.int .i64 x) (.int .i64 y)) k = (u9 (x + y) /\ k (.int .i64 (x + y))) := by simp only [jH, dC]; rfl
theorem Iz {bt : BT} {l : Bool} {x y : Int} : (aj .sub bt l (.int .i64 x) (.int .i64 y)).wp C U K Kp = (u9 (x - y) /\ K (.int .i64 (x - y)) U) := by simp only [dU, dC]; rfl
theorem RG {bt : BT} {l : Bool} {x y : Int} : (aj .mul bt l (.int .i64 x) (.int .i64 y)).wp C U K Kp = (u9 (x * y) /\ K (.int .i64 (x * y)) U) := by simp only [Fc, dC]; rfl
theorem wR {at_ : Option (Nat × TypeId × Nat)} {c : iQ} {i : IntKind} {j : Int} : (aF (some (e, sz)) at_ (.vec n c L) (.int i j)).wp C U K Kp = ((0 <= j /\ j < n) /\ K (.ck (L.drop (j.toNat * sz))) U) := rfl
theorem We {at_ : Option (Nat × TypeId × Nat)} {c : iQ} {i : IntKind} {j : Int} : aw C (aF (some (e, sz)) at_ (.vec n c L) (.int i j)) k = ((0 <= j /\ j < n) /\ k (.ck (L.drop (j.toNat * sz)))) := rfl
theorem Aq {at_ : Option (Nat × TypeId × Nat)} {i : IntKind} {j : Int} {z u : Nat} : (aF (some (e, sz)) at_ (.ms b o n z u) (.int i j)).wp C U K Kp = ((0 <= j /\ j < n /\ z = sz) /\ K (.box b (o + j.toNat * sz)) U) := rfl
theorem zX {at_ : Option (Nat × TypeId × Nat)} {i : IntKind} {j : Int} {z u : Nat} : aw C (aF (some (e, sz)) at_ (.ms b o n z u) (.int i j)) k = ((0 <= j /\ j < n /\ z = sz) /\ k (.box b (o + j.toNat * sz))) := rfl
theorem u4 {at_ : Option (Nat × TypeId × Nat)} {vt : Option (Bool × Nat)} {s : List UInt8} {i : IntKind} {j : Int} : (eE true at_ vt (.str s) (.int i j)).wp C U K Kp = ((0 <= j /\ j < s.length) /\ K (.int .u8 (s.getD j.toNat 0).toNat) U) := by rw [BN]; rfl
theorem uL {at_ : Option (Nat × TypeId × Nat)} {vt : Option (Bool × Nat)} {s : List UInt8} {i : IntKind} {j : Int} : aw C (eE true at_ vt (.str s) (.int i j)) k = ((0 <= j /\ j < s.length) /\ k (.int .u8 (s.getD j.toNat 0).toNat)) := by rw [BN]; rfl
theorem ff (h : v.cQ = true) : (fh v).wp C U K Kp = ∀ b, U.cY b -> K (.box b 0) (U.new b (.box (ay v))) := by
 rw [Bp _ h]; simp only [wp_cond, true_and]; rfl
theorem cN : (au.cq L).wp C U K Kp = ∀ b, U.cY b -> K (.box b 0) (U.new b (.box L)) := rfl
theorem fC {z : List AV} {ps : List (Nat × AV)} : (aO (some (e, sz)) (some z) n false ps).wp C U K Kp = (n * sz <= 16777216 /\ (eW (fun i => some (i * sz, sz)) ps (bK n z) fun cs => .cond (cs.length = n * sz) (.val (.vec n .full cs))).wp C U K Kp) := by
 simp only [aO, bo, if_false]; rfl
theorem uK {z : List AV} {ps : List (Nat × AV)} : aw C (aO (some (e, sz)) (some z) n false ps) k = (n * sz <= 16777216 /\ aw C (eW (fun i => some (i * sz, sz)) ps (bK n z) fun cs => .cond (cs.length = n * sz) (.val (.vec n .full cs))) k) := by
 simp only [aO, bo, if_false]; rfl
theorem eO {pl : Nat -> Option (Nat × Nat)} {i s : Nat} {x : AV} {rest : List (Nat × AV)} {f : List AV -> au} (h : pl i = some (o, s)) : (eW pl ((i, x) :: rest) L f).wp C U K Kp = ((x.cQ = true /\ (ay x).length = s /\ o + s <= L.length) /\ (eW pl rest (aB L o (ay x)) f).wp C U K Kp) := by
 simp only [eW, h]; rfl
theorem pK {pl : Nat -> Option (Nat × Nat)} {i s : Nat} {x : AV} {rest : List (Nat × AV)} {f : List AV -> au} (h : pl i = some (o, s)) : aw C (eW pl ((i, x) :: rest) L f) k = ((x.cQ = true /\ (ay x).length = s /\ o + s <= L.length) /\ aw C (eW pl rest (aB L o (ay x)) f) k) := by
 simp only [eW, h]; rfl
theorem SN {pl : Nat -> Option (Nat × Nat)} : (eW pl [] L fun z => .val (.agg z)).wp C U K Kp = K (.agg L) U := rfl
theorem gM {pl : Nat -> Option (Nat × Nat)} {m : Nat} : (eW pl [] L fun cs => .cond (cs.length = m) (.val (.vec n .full cs))).wp C U K Kp = (L.length = m /\ K (.vec n .full L) U) := rfl
theorem xj {pl : Nat -> Option (Nat × Nat)} {m : Nat} : aw C (eW pl [] L fun cs => .cond (cs.length = m) (.val (.vec n .full cs))) k = (L.length = m /\ k (.vec n .full L)) := rfl
def vG : List (Nat × Nat) -> List (Nat × AV) -> List AV -> Option (List AV)
 | _, [], z => some z
 | pl, (i, x) :: rest, z => match pl[i]? with
   | some (o, s) => if x.cQ = true /\ (ay x).length = s /\ o + s <= z.length then vG pl rest (aB z o (ay x)) else none
   | none => none
theorem Bo : ∀ {pl : List (Nat × Nat)} {ps : List (Nat × AV)} {z zs : List AV}, vG pl ps z = some zs -> K (.agg zs) U -> (eW (fun i => pl[i]?) ps z fun z => .val (.agg z)).wp C U K Kp
 | pl, [], z, zs, h, hk => by cases h; exact hk
 | pl, (i, x) :: rest, z, zs, h, hk => by
   simp only [vG] at h
   split at h
   · rename_i o s e
     split at h
     · rename_i hc; rw [eO e]; exact ⟨hc, Bo h hk⟩
     · cases h
   · cases h
theorem oQ {pl : List (Nat × Nat)} {at_ : Option (Nat × TypeId × Nat)} {ps : List (Nat × AV)} (zs : List AV) (h : vG pl ps L = some zs) (hk : K (.agg zs) U) : (dj (some pl) (some L) at_ ps).wp C U K Kp := Bo h hk
end
def nh (t : Tk) : List AV := [.int .u8 t.k, .str t.s, .int .i64 t.at_]
def gL (L : List Tk) : List AV := L.flatMap nh
def eh (v : AV) (n : Nat) (cs : List AV) : Prop := (n = 0 /\ cs = [] /\ v = .al) \/ ∃ c, v = .vec n c cs
theorem Ns (L : List Tk) (i : Nat) : (gL L).drop (i * 3) = gL (L.drop i) := by
 induction L generalizing i with
 | nil => simp [gL]
 | cons t L ih =>
   cases i with
   | zero => simp
   | succ i =>
     rw [Nat.add_mul, show i * 3 + 1 * 3 = 3 + i * 3 by omega, <- List.drop_drop, List.drop_succ_cons, <- ih]
     rfl
theorem Bc {L : List Tk} {i : Nat} {t : Tk} (h : L[i]? = some t) : ∃ r, (gL L).drop (i * 3) = nh t ++ r := by
 rw [Ns, gy (dF.1 h).1]
 refine ⟨gL (L.drop (i + 1)), ?_⟩
 have := (dF.1 h).2
 simp [gL, this]
end Go.Rip
