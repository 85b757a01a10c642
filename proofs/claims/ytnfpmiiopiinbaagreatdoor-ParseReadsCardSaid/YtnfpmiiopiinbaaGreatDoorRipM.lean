/- Lemmas for the proof: no conditions. -/
import Derived.Test.YtnfpmiiopiinbaaGreatDoorRipZz
import Derived.Test.YtnfpmiiopiinbaaGreatDoorRipC
import Derived.Test.YtnfpmiiopiinbaaGreatDoorRipD
import Derived.Test.YtnfpmiiopiinbaaGreatDoorRipI
set_option linter.unusedVariables false
set_option linter.unusedSimpArgs false
set_option linter.loopingSimpArgs false
namespace Go.Rip
open Go.RowKit
section
variable {U af bP bI : St} {b b' r : Nat} {x y : Live} {l l' L : List AV}
theorem gV : (U.set b x).live b' = if b' = b then some x else U.live b' := rfl
theorem pe : (U.new b x).live b' = if b' = b then some x else U.live b' := rfl
theorem jz : (U.del b).live b' = if b' = b then none else U.live b' := rfl
theorem bf : (U.set b (.box l)).box b = some l := by simp [St.box, gV]
theorem aW : (U.new b (.box l)).box b = some l := by simp [St.box, pe]
theorem bK (h : b' ≠ b) : (U.set b x).box b' = U.box b' := by simp [St.box, gV, h]
theorem og (h : b' ≠ b) : (U.new b x).box b' = U.box b' := by simp [St.box, pe, h]
theorem oe (h : b' ≠ b) : (U.del b).box b' = U.box b' := by simp [St.box, jz, h]
theorem wG {t : Tok} : (U.new b (.tok t)).tok b = some t := by simp [St.tok, pe]
theorem qs (h : b' ≠ b) : (U.set b x).tok b' = U.tok b' := by simp [St.tok, gV, h]
theorem dJ (h : U.box b = some l) : U.live b ≠ none := by
 intro e; simp [St.box, e] at h
theorem yJ {t : Tok} (h : U.tok b = some t) : U.live b ≠ none := by
 intro e; simp [St.tok, e] at h
theorem iu {t : Tok} (h : U.box b = some l) (k : U.tok b' = some t) : b ≠ b' := by
 rintro rfl
 unfold St.box at h; unfold St.tok at k
 split at k
 · rename_i e; simp [e] at h
 · cases k
theorem St.dB.da (h : U.dB b) (k : U.box b' = some l) : b' ≠ b := by
 rintro rfl; exact dJ k h.1
theorem fh (h : af.live b = U.live b) : af.box b = U.box b := by simp [St.box, h]
theorem rq (h : af.live b = U.live b) : af.tok b = U.tok b := by simp [St.tok, h]
def gj (r : Nat) (U af : St) : Prop := ∀ b x, b ≠ r -> U.live b = some x -> af.live b = some x
def dr (U af : St) : Prop := ∀ b x, U.live b = some x -> af.live b = some x
theorem dr.refl (U : St) : dr U U := fun _ _ h => h
theorem dr.trans (h : dr U bP) (k : dr bP bI) : dr U bI := fun b x e => k b x (h b x e)
theorem gj.refl (r : Nat) (U : St) : gj r U U := fun _ _ _ h => h
theorem gj.trans (h : gj r U bP) (k : gj r bP bI) : gj r U bI := fun b x n e => k b x n (h b x n e)
theorem dr.rz (h : dr U af) : gj r U af := fun b x _ e => h b x e
theorem gj.bU (h : gj r U af) (n : b ≠ r) (k : U.box b = some l) : af.box b = some l := by
 cases e : U.live b with
 | none => simp [St.box, e] at k
 | some x => rw [fh ((h b x n e).trans e.symm)]; exact k
theorem gj.tok (h : gj r U af) {t : Tok} (n : b ≠ r) (k : U.tok b = some t) : af.tok b = some t := by
 cases e : U.live b with
 | none => simp [St.tok, e] at k
 | some x => rw [rq ((h b x n e).trans e.symm)]; exact k
theorem dr.bU (h : dr U af) (k : U.box b = some l) : af.box b = some l := by
 cases e : U.live b with
 | none => simp [St.box, e] at k
 | some x => rw [fh ((h b x e).trans e.symm)]; exact k
theorem dr.tok (h : dr U af) {t : Tok} (k : U.tok b = some t) : af.tok b = some t := by
 cases e : U.live b with
 | none => simp [St.tok, e] at k
 | some x => rw [rq ((h b x e).trans e.symm)]; exact k
theorem cE (h : U.dB b) : dr U (U.new b x) := fun c y e => by
 rw [pe]; split
 · rename_i n; subst n; rw [h.1] at e; cases e
 · exact e
theorem gj.set (h : gj r U af) (n : U.live b = none \/ b = r) : gj r U (af.set b x) := fun c y m e => by
 rw [gV]; split
 · rename_i k; subst k
   rcases n with n | n
   · rw [n] at e; cases e
   · exact absurd n m
 · exact h c y m e
theorem dr.set (h : dr U af) (n : U.live b = none) : dr U (af.set b x) := fun c y e => by
 rw [gV]; split
 · rename_i k; subst k; rw [n] at e; cases e
 · exact h c y e
theorem gj.del (h : gj r U af) (n : U.live b = none \/ b = r) : gj r U (af.del b) := fun c y m e => by
 rw [jz]; split
 · rename_i k; subst k
   rcases n with n | n
   · rw [n] at e; cases e
   · exact absurd n m
 · exact h c y m e
theorem dr.del (h : dr U af) (n : U.live b = none) : dr U (af.del b) := fun c y e => by
 rw [jz]; split
 · rename_i k; subst k; rw [n] at e; cases e
 · exact h c y e
theorem gj.new (h : gj r U af) (n : af.dB b) : gj r U (af.new b x) := h.trans (cE n).rz
theorem dr.new (h : dr U af) (n : af.dB b) : dr U (af.new b x) := h.trans (cE n)
theorem dr.fresh (h : dr U af) (n : af.live b = none) : U.live b = none := by
 cases e : U.live b with
 | none => rfl
 | some x => rw [h b x e] at n; cases n
theorem gj.fresh (h : gj r U af) (m : b ≠ r) (n : af.live b = none) : U.live b = none := by
 cases e : U.live b with
 | none => rfl
 | some x => rw [h b x m e] at n; cases n
structure eg (r : Nat) (l : List AV) (U af : St) : Prop where
 box : af.box r = some l
 ex : gj r U af
theorem eg.trans (h : eg r l U bP) (k : eg r l' bP bI) : eg r l' U bI := ⟨k.box, h.ex.trans k.ex⟩
theorem eg.pK (h : U.box r = some l) (k : dr U af) : eg r l U af := ⟨k.bU h, k.rz⟩
end
section
variable {U : St} {b o n : Nat} {L : List AV} {v : AV}
theorem ld (h : U.box b = some L) (n o : Nat) : av (some (false, n)) (.box b o) U = gP (L.drop o) := s9 h n o
theorem Ms (h : U.box b = some L) (n o : Nat) : av (some (true, n)) (.box b o) U = .cond (n <= (L.drop o).length) (.val (.agg ((L.drop o).take n))) := Mz h n o
theorem yH (h : U.box b = some L) (t : Bool) (n o : Nat) (v : AV) : aD (some (t, n)) (.box b o) v U = .cond (v.cN = true /\ (aC v).length = n /\ o + n <= L.length) (.kW (.aU []) b (.box (az L o (aC v)))) := mi h t n o v
end
@[simp] theorem Ki {vt : Option (Bool × Nat)} {p v : AV} {U : St} {k : AV -> Prop} (h : av vt p U = .val v) : bL vt p U k = k v := by simp [bL, h]
theorem uw {vt : Option (Bool × Nat)} {p v : AV} {U : St} {k : AV -> Prop} {q : Prop} [Decidable q] (h : av vt p U = .cond q (.val v)) : bL vt p U k = (q /\ k v) := by simp [bL, h]
section
variable {C : cV} {U τ : St} {K : AV -> St -> Prop} {Kp : AV -> St -> Prop} {k : AV -> Prop} {b o n sz e : Nat} {t : Bool} {L : List AV} {v : AV}
theorem cT (h : U.box b = some L) : (aD (some (t, n)) (.box b o) v U).wp C U K Kp = ((v.cN = true /\ (aC v).length = n /\ o + n <= L.length) /\ K (.aU []) (U.set b (.box (az L o (aC v))))) := by
 rw [yH h]; rfl
theorem eG (h : U.box b = some L) : (av (some (false, n)) (.box b o) U).wp C τ K Kp = (gP (L.drop o)).wp C τ K Kp := by rw [ld h]
theorem jC (h : U.box b = some L) : ar C (av (some (false, n)) (.box b o) U) k = ar C (gP (L.drop o)) k := by rw [ld h]
theorem ow (h : U.box b = some L) : (av (some (true, n)) (.box b o) U).wp C τ K Kp = (n <= (L.drop o).length /\ K (.agg ((L.drop o).take n)) τ) := by rw [Ms h]; rfl
theorem BV (h : U.box b = some L) : ar C (av (some (true, n)) (.box b o) U) k = (n <= (L.drop o).length /\ k (.agg ((L.drop o).take n))) := by rw [Ms h]; rfl
theorem ny (h : U.box b = some L) : bL (some (true, n)) (.box b o) U k = (n <= (L.drop o).length /\ k (.agg ((L.drop o).take n))) := by rw [uw (Ms h n o)]
theorem RI {x : AV} {l : List AV} (h : U.box b = some L) (hd : L.drop o = x :: l) : bL (some (false, n)) (.box b o) U k = k x := by
 rw [Ki]; rw [ld h, hd]; rfl
theorem bq {x : AV} {l : List AV} : (gP (x :: l)).wp C U K Kp = K x U := rfl
theorem fw {x : AV} {l : List AV} : ar C (gP (x :: l)) k = k x := rfl
theorem mR : (av (some (false, n)) (.cP L) U).wp C τ K Kp = (gP L).wp C τ K Kp := rfl
theorem tj : ar C (av (some (false, n)) (.cP L) U) k = ar C (gP L) k := rfl
theorem Jg : (av (some (true, n)) (.cP L) U).wp C τ K Kp = (n <= L.length /\ K (.agg (L.take n)) τ) := rfl
theorem zd : ar C (av (some (true, n)) (.cP L) U) k = (n <= L.length /\ k (.agg (L.take n))) := rfl
theorem cI {bt : BT} {l : Bool} {x y : Int} : (aq .add bt l (.int .i64 x) (.int .i64 y)).wp C U K Kp = (tz (x + y) /\ K (.int .i64 (x + y)) U) := by simp only [k9, hM]; rfl
theorem zc {bt : BT} {l : Bool} {x y : Int} : ar C (aq .add bt l (.int .i64 x) (.int .i64 y)) k = (tz (x + y) /\ k (.int .i64 (x + y))) := by simp only [k9, hM]; rfl
theorem Us {bt : BT} {l : Bool} {x y : Int} : (aq .sub bt l (.int .i64 x) (.int .i64 y)).wp C U K Kp = (tz (x - y) /\ K (.int .i64 (x - y)) U) := by simp only [jT, hM]; rfl
theorem TJ {bt : BT} {l : Bool} {x y : Int} : ar C (aq .sub bt l (.int .i64 x) (.int .i64 y)) k = (tz (x - y) /\ k (.int .i64 (x - y))) := by simp only [jT, hM]; rfl
theorem KV {bt : BT} {l : Bool} {x y : Int} : (aq .mul bt l (.int .i64 x) (.int .i64 y)).wp C U K Kp = (tz (x * y) /\ K (.int .i64 (x * y)) U) := by simp only [Hd, hM]; rfl
theorem uM {at_ : Option (Nat × TypeId × Nat)} {c : kh} {i : IntKind} {j : Int} : (aH (some (e, sz)) at_ (.vec n c L) (.int i j)).wp C U K Kp = ((0 <= j /\ j < n) /\ K (.cP (L.drop (j.toNat * sz))) U) := rfl
theorem Gv {at_ : Option (Nat × TypeId × Nat)} {c : kh} {i : IntKind} {j : Int} : ar C (aH (some (e, sz)) at_ (.vec n c L) (.int i j)) k = ((0 <= j /\ j < n) /\ k (.cP (L.drop (j.toNat * sz)))) := rfl
theorem wO {at_ : Option (Nat × TypeId × Nat)} {i : IntKind} {j : Int} {z u : Nat} : (aH (some (e, sz)) at_ (.ms b o n z u) (.int i j)).wp C U K Kp = ((0 <= j /\ j < n /\ z = sz) /\ K (.box b (o + j.toNat * sz)) U) := rfl
theorem EF {at_ : Option (Nat × TypeId × Nat)} {i : IntKind} {j : Int} {z u : Nat} : ar C (aH (some (e, sz)) at_ (.ms b o n z u) (.int i j)) k = ((0 <= j /\ j < n /\ z = sz) /\ k (.box b (o + j.toNat * sz))) := rfl
theorem qv {at_ : Option (Nat × TypeId × Nat)} {vt : Option (Bool × Nat)} {s : List UInt8} {i : IntKind} {j : Int} : (dU true at_ vt (.str s) (.int i j)).wp C U K Kp = ((0 <= j /\ j < s.length) /\ K (.int .u8 (s.getD j.toNat 0).toNat) U) := by rw [DL]; rfl
theorem sn {at_ : Option (Nat × TypeId × Nat)} {vt : Option (Bool × Nat)} {s : List UInt8} {i : IntKind} {j : Int} : ar C (dU true at_ vt (.str s) (.int i j)) k = ((0 <= j /\ j < s.length) /\ k (.int .u8 (s.getD j.toNat 0).toNat)) := by rw [DL]; rfl
theorem jR (h : v.cN = true) : (jb v).wp C U K Kp = ∀ b, U.dB b -> K (.box b 0) (U.new b (.box (aC v))) := by
 rw [Dg _ h]; simp only [wp_cond, true_and]; rfl
theorem du : (aw.cJ L).wp C U K Kp = ∀ b, U.dB b -> K (.box b 0) (U.new b (.box L)) := rfl
theorem dE {z : List AV} {ps : List (Nat × AV)} : (aA (some (e, sz)) (some z) n false ps).wp C U K Kp = (n * sz <= 16777216 /\ (fE (fun i => some (i * sz, sz)) ps (bB n z) fun cs => .cond (cs.length = n * sz) (.val (.vec n .full cs))).wp C U K Kp) := by
 simp only [aA, bH, if_false]; rfl
theorem ti {z : List AV} {ps : List (Nat × AV)} : ar C (aA (some (e, sz)) (some z) n false ps) k = (n * sz <= 16777216 /\ ar C (fE (fun i => some (i * sz, sz)) ps (bB n z) fun cs => .cond (cs.length = n * sz) (.val (.vec n .full cs))) k) := by
 simp only [aA, bH, if_false]; rfl
theorem c6 {pl : Nat -> Option (Nat × Nat)} {i s : Nat} {x : AV} {rest : List (Nat × AV)} {f : List AV -> aw} (h : pl i = some (o, s)) : (fE pl ((i, x) :: rest) L f).wp C U K Kp = ((x.cN = true /\ (aC x).length = s /\ o + s <= L.length) /\ (fE pl rest (az L o (aC x)) f).wp C U K Kp) := by
 simp only [fE, h]; rfl
theorem nR {pl : Nat -> Option (Nat × Nat)} {i s : Nat} {x : AV} {rest : List (Nat × AV)} {f : List AV -> aw} (h : pl i = some (o, s)) : ar C (fE pl ((i, x) :: rest) L f) k = ((x.cN = true /\ (aC x).length = s /\ o + s <= L.length) /\ ar C (fE pl rest (az L o (aC x)) f) k) := by
 simp only [fE, h]; rfl
theorem Vr {pl : Nat -> Option (Nat × Nat)} : (fE pl [] L fun z => .val (.agg z)).wp C U K Kp = K (.agg L) U := rfl
theorem er {pl : Nat -> Option (Nat × Nat)} {m : Nat} : (fE pl [] L fun cs => .cond (cs.length = m) (.val (.vec n .full cs))).wp C U K Kp = (L.length = m /\ K (.vec n .full L) U) := rfl
theorem vp {pl : Nat -> Option (Nat × Nat)} {m : Nat} : ar C (fE pl [] L fun cs => .cond (cs.length = m) (.val (.vec n .full cs))) k = (L.length = m /\ k (.vec n .full L)) := rfl
def pT : List (Nat × Nat) -> List (Nat × AV) -> List AV -> Option (List AV)
 | _, [], z => some z
 | pl, (i, x) :: rest, z => match pl[i]? with
   | some (o, s) => if x.cN = true /\ (aC x).length = s /\ o + s <= z.length then pT pl rest (az z o (aC x)) else none
   | none => none
theorem Df : ∀ {pl : List (Nat × Nat)} {ps : List (Nat × AV)} {z zs : List AV}, pT pl ps z = some zs -> K (.agg zs) U -> (fE (fun i => pl[i]?) ps z fun z => .val (.agg z)).wp C U K Kp
 | pl, [], z, zs, h, hk => by cases h; exact hk
 | pl, (i, x) :: rest, z, zs, h, hk => by
   simp only [pT] at h
   split at h
   · rename_i o s e
     split at h
     · rename_i hc; rw [c6 e]; exact ⟨hc, Df h hk⟩
     · cases h
   · cases h
theorem AW : ∀ {pl : List (Nat × Nat)} {ps : List (Nat × AV)} {z zs : List AV}, pT pl ps z = some zs -> k (.agg zs) -> ar C (fE (fun i => pl[i]?) ps z fun z => .val (.agg z)) k
 | pl, [], z, zs, h, hk => by cases h; exact hk
 | pl, (i, x) :: rest, z, zs, h, hk => by
   simp only [pT] at h
   split at h
   · rename_i o s e
     split at h
     · rename_i hc; rw [nR e]; exact ⟨hc, AW h hk⟩
     · cases h
   · cases h
theorem gz {pl : List (Nat × Nat)} {at_ : Option (Nat × TypeId × Nat)} {ps : List (Nat × AV)} (zs : List AV) (h : pT pl ps L = some zs) (hk : K (.agg zs) U) : (bE (some pl) (some L) at_ ps).wp C U K Kp := Df h hk
theorem Xn {pl : List (Nat × Nat)} {at_ : Option (Nat × TypeId × Nat)} {ps : List (Nat × AV)} (zs : List AV) (h : pT pl ps L = some zs) (hk : k (.agg zs)) : ar C (bE (some pl) (some L) at_ ps) k := AW h hk
end
def jo (t : Tk) : List AV := [.int .u8 t.k, .str t.s, .int .i64 t.at_]
def ib (L : List Tk) : List AV := L.flatMap jo
def iJ (v : AV) (n : Nat) (cs : List AV) : Prop := (n = 0 /\ cs = [] /\ v = .ak) \/ ∃ c, v = .vec n c cs
theorem Qd (L : List Tk) (i : Nat) : (ib L).drop (i * 3) = ib (L.drop i) := by
 induction L generalizing i with
 | nil => simp [ib]
 | cons t L ih =>
   cases i with
   | zero => simp
   | succ i =>
     rw [Nat.add_mul, show i * 3 + 1 * 3 = 3 + i * 3 by omega, <- List.drop_drop, List.drop_succ_cons, <- ih]
     rfl
theorem pO {L : List Tk} {i : Nat} {t : Tk} (h : L[i]? = some t) : ∃ r, (ib L).drop (i * 3) = jo t ++ r := by
 rw [Qd, gX (dP.1 h).1]
 refine ⟨ib (L.drop (i + 1)), ?_⟩
 have := (dP.1 h).2
 simp [ib, this]
end Go.Rip
