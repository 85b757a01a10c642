/- Lemmas for the proof: no conditions. -/
import Derived.Test.YtnfpmiiopiinbaaGreatDoorRipZz
import Derived.Test.YtnfpmiiopiinbaaGreatDoorRipV
import Derived.Test.YtnfpmiiopiinbaaGreatDoorRipF
set_option linter.unusedVariables false
set_option linter.unusedSimpArgs false
set_option linter.loopingSimpArgs false
namespace Go.Rip
open Go.Proofs Go.RowKit
def qH (k : Int) (ks : List Int) : Bool := match fo k with | some f => dK ks f.kids | none => false
theorem uo {k : Int} (h : k < 1 \/ 37 < k) : fo k = none := by
 unfold fo
 repeat rw [if_neg (by omega)]
section
variable {U : St} {R : cS -> St -> Prop} {v : AV} {ks : List Int} {c : Prop} [Decidable c] {q : Bool} {f : FuncId} {Kp : AV -> St -> Prop} {K' : AV -> St -> Prop} {Kp : AV -> St -> Prop}
theorem qN (hp : Pure K f [v] (.bool q)) (hk : K' (.bool (decide c && q)) U) :
 ae K (au (.bool (decide c)) true) (aw.val v) fun B9 => ae K (au (.bool (decide c)) true) (aw.enter f [B9]) fun v91 => (aY (.bool (decide c)) v91 (.bool false)).wp K U K' Kp := by
 by_cases hc : c
 · simp only [hc, cj, aS, dN]
   refine c8 (mX hp ?_)
   simp only [aF, if_true, aj]
   simpa [hc] using hk
 · simp only [hc, cM, aS, show (false == true) = false from rfl, aM, bz, aF, bH, if_false, aj]
   simpa [hc] using hk
theorem As {i : Int} {e : Nat} {p : Int -> Bool} {cb : Bool} (hv : iJ v ks.length (jN ks)) (hp : ∀ k, Pure K f [.int .u8 k] (.bool (p k))) (hi : cb = true -> 0 <= i /\ i < ks.length) (hk : K' (.bool (cb && p (ks.getD i.toNat 0))) U) :
 ae K (au (.bool cb) true) (aw.val v) fun cn => ae K (au (.bool cb) true) (aH (some (e, 1)) none cn (AV.int .i64 i)) fun v20 => ae K (au (.bool cb) true) (av (some (false, 1)) v20 U) fun v21 =>
  ae K (au (.bool cb) true) (aw.enter f [v21]) fun bY => (aY (.bool cb) bY (.bool false)).wp K U K' Kp := by
 cases cb with
 | true =>
   obtain ⟨h0, h1⟩ := hi rfl
   obtain ⟨j, rfl⟩ : ∃ j : Nat, i = j := ⟨i.toNat, by omega⟩
   have aL : j < ks.length := by omega
   have hx : ks[j]? = some ks[j] := by simp [aL]
   simp only [aS, dN]
   refine c8 (Fq hv hx (mX (hp _) ?_))
   simp only [aF, if_true, aj]
   have : ks.getD (j : Int).toNat 0 = ks[j] := by rw [dR, uC, hx]; rfl
   rw [this] at hk
   simpa using hk
 | false =>
   simp only [aS, show (false == true) = false from rfl, aM, bz, aF, bH, if_false, aj]
   simpa using hk
theorem Mu {i c : Int} {e : Nat} {cb : Bool} {bt : BT} {lb : Bool} (hv : iJ v ks.length (jN ks)) (hi : cb = true -> 0 <= i /\ i < ks.length) (hk : K' (.bool (cb && decide (ks.getD i.toNat 0 = c))) U) :
 ae K (au (.bool cb) true) (aw.val v) fun cn => ae K (au (.bool cb) true) (aH (some (e, 1)) none cn (AV.int .i64 i)) fun v20 => ae K (au (.bool cb) true) (av (some (false, 1)) v20 U) fun v21 =>
  ae K (au (.bool cb) true) (aq .eql bt lb v21 (.int .u8 c)) fun bY => (aY (.bool cb) bY (.bool false)).wp K U K' Kp := by
 cases cb with
 | true =>
   obtain ⟨h0, h1⟩ := hi rfl
   obtain ⟨j, rfl⟩ : ∃ j : Nat, i = j := ⟨i.toNat, by omega⟩
   have aL : j < ks.length := by omega
   have hx : ks[j]? = some ks[j] := by simp [aL]
   simp only [aS, dN]
   refine c8 (Fq hv hx ?_)
   rw [aV]
   refine c8 ?_
   simp only [aF, if_true, aj]
   have : ks.getD (j : Int).toNat 0 = ks[j] := by rw [dR, uC, hx]; rfl
   rw [this] at hk
   simpa using hk
 | false =>
   simp only [aS, show (false == true) = false from rfl, aM, bz, aF, bH, if_false, aj]
   simpa using hk
theorem Ar {b : Nat} {e : Nat} {p : Int -> Bool} {cb : Bool} (hv : iJ v ks.length (jN ks)) (hl : ks.length <= 100000) (hp : ∀ k, Pure K f [.int .u8 k] (.bool (p k))) (hb : 0 < b) (hi : cb = true -> b <= ks.length) (hk : K' (.bool (cb && p (ks.getD (ks.length - b) 0))) U) :
 ae K (au (.bool cb) true) (aw.val v) fun v37 => ae K (au (.bool cb) true) (aw.val (.int .i64 ks.length)) fun eL => ae K (au (.bool cb) true) (aq .sub (BT.mk false false false none) true eL (AV.int .i64 (b : Nat))) fun gn =>
  ae K (au (.bool cb) true) (aH (some (e, 1)) none v37 gn) fun v20 => ae K (au (.bool cb) true) (av (some (false, 1)) v20 U) fun v21 =>
  ae K (au (.bool cb) true) (aw.enter f [v21]) fun bY => (aY (.bool cb) bY (.bool false)).wp K U K' Kp := by
 cases cb with
 | true =>
   have hi := hi rfl
   have aL : ks.length - b < ks.length := by omega
   have hx : ks[ks.length - b]? = some ks[ks.length - b] := by simp [aL]
   simp only [aS, dN]
   refine c8 (c8 ?_)
   rw [jT, hM]
   refine lj ⟨bp (by omega) (by omega), ?_⟩
   rw [aJ, show (ks.length : Int) - b = ((ks.length - b : Nat) : Int) by omega]
   refine Fq hv hx (mX (hp _) ?_)
   simp only [aF, if_true, aj]
   have : ks.getD (ks.length - b) 0 = ks[ks.length - b] := by rw [uC, hx]; rfl
   rw [this] at hk
   simpa using hk
 | false =>
   simp only [aS, show (false == true) = false from rfl, aM, bz, aF, bH, if_false, aj]
   simpa using hk
theorem DR {b : Nat} {e : Nat} {cc : Int} (hv : iJ v ks.length (jN ks)) (hl : ks.length <= 100000) (hb : 0 < b) (hi : c -> b <= ks.length) (hk : K' (.bool (decide c && (ks.take (ks.length - b)).all fun k => decide (k = cc))) U) :
 ae K (au (.bool (decide c)) true) (aw.val v) fun v30 => ae K (au (.bool (decide c)) true) (aw.val (.int .i64 ks.length)) fun v31 => ae K (au (.bool (decide c)) true) (aq .sub (BT.mk false false false none) true v31 (AV.int .i64 (b : Nat))) fun ep =>
  ae K (au (.bool (decide c)) true) (fW false (some (e, 1)) v30 none (some ep)) fun dY => ae K (au (.bool (decide c)) true) (aw.enter 140 [dY, (AV.int .u8 cc)]) fun eK => (aY (.bool (decide c)) eK (.bool false)).wp K U K' Kp := by
 by_cases hc : c
 · have hi := hi hc
   simp only [hc, cj, aS, dN]
   refine c8 (c8 ?_)
   rw [jT, hM]
   refine lj ⟨bp (by omega) (by omega), ?_⟩
   rw [aJ, show (ks.length : Int) - b = ((ks.length - b : Nat) : Int) by omega]
   rcases hv with ⟨h0, _, _⟩ | ⟨cp, rfl⟩
   · omega
   · rw [P6, iY, jU]
     refine lj ⟨by omega, ?_⟩
     rw [aJ]
     have p4 : iJ (.vec (((ks.length - b : Nat) : Int).toNat - (0 : Int).toNat) (vL cp (some (.int .i64 ((ks.length - b : Nat) : Int)))) (((jN ks).take (((ks.length - b : Nat) : Int).toNat * 1)).drop ((0 : Int).toNat * 1))) (ks.take (ks.length - b)).length (jN (ks.take (ks.length - b))) := by
      refine .inr ⟨vL cp (some (.int .i64 ((ks.length - b : Nat) : Int))), ?_⟩
      rw [dR]
      simp [jN, List.map_take]
     refine mX (Jl p4 (by simp; omega) cc) ?_
     simp only [aF, if_true, aj]
     simpa [hc] using hk
 · simp only [hc, cM, aS, show (false == true) = false from rfl, aM, bz, aF, bH, if_false, aj]
   simpa [hc] using hk
end
theorem pA {c : kH} {p : Int -> Bool} (hp : c.is = p) {lo hi n : Nat} {ks : List Int} (h : n = ks.length) : dK ks [⟨c, lo, hi⟩] = (decide (lo <= n /\ n <= hi) && ks.all p) := by rw [UI, hp, h]
theorem getD_take : ∀ (l : List Int) (i : Nat), i < l.length -> l.drop i = l.getD i 0 :: l.drop (i + 1) := fun l i h => by
 rw [gX h, uC, jQ h]; rfl
theorem QI {ks : List Int} (hl : ks.length <= 900) : dK ks [⟨.kind 5, 0, 900⟩, ⟨.base, 1, 1⟩, ⟨.term, 1, 1⟩] = (((decide (2 <= ks.length) && (ks.take (ks.length - 2)).all fun k => decide (k = 5)) && lU (ks.getD (ks.length - 2) 0)) && dZ (ks.getD (ks.length - 1) 0)) := by
 have := zz ⟨.kind 5, 0, 900⟩ [.base, .term] ks (by simp; omega)
 simp only [et, jk, lk, qm, bW, Nat.reduceAdd] at this
 rw [this]
 by_cases h : 2 <= ks.length
 · rw [getD_take ks (ks.length - 2) (by omega), show ks.length - 2 + 1 = ks.length - 1 by omega, getD_take ks (ks.length - 1) (by omega), List.drop_of_length_le (show ks.length <= ks.length - 1 + 1 by omega)]
   have e1 := j9 .base [.term] (ks.getD (ks.length - 2) 0) [ks.getD (ks.length - 1) 0] rfl
   have e2 := j9 .term [] (ks.getD (ks.length - 1) 0) [] rfl
   simp only [et, jk] at e1 e2
   rw [e1, e2]
   simp only [dK, List.isEmpty_nil, Bool.and_true, Bool.and_assoc, kH.is]
   rfl
 · simp [h]
theorem Xy {ks : List Int} (hl : ks.length <= 900) : dK ks [⟨.kind 37, 1, 900⟩, ⟨.term, 1, 1⟩] = ((decide (2 <= ks.length) && (ks.take (ks.length - 1)).all fun k => decide (k = 37)) && dZ (ks.getD (ks.length - 1) 0)) := by
 have := zz ⟨.kind 37, 1, 900⟩ [.term] ks (by simp; omega)
 simp only [et, jk, lk, qm, bW, Nat.reduceAdd] at this
 rw [this]
 by_cases h : 2 <= ks.length
 · rw [getD_take ks (ks.length - 1) (by omega), List.drop_of_length_le (show ks.length <= ks.length - 1 + 1 by omega)]
   have e2 := j9 .term [] (ks.getD (ks.length - 1) 0) [] rfl
   simp only [et, jk] at e2
   rw [e2]
   simp only [dK, List.isEmpty_nil, Bool.and_true, Bool.and_assoc, kH.is]
   rfl
 · simp [h]
theorem UJ {ks : List Int} (hl : ks.length <= 900) : dK ks [⟨.term, 1, 1⟩, ⟨.kind 37, 1, 1⟩, ⟨.term, 1, 1⟩] = (((decide (ks.length = 3) && dZ (ks.getD 0 0)) && decide (ks.getD 1 0 = 37)) && dZ (ks.getD 2 0)) := by
 by_cases h : ks.length = 3
 · match ks, h with
   | [a, b, c], _ =>
     have e1 := j9 .term [.kind 37, .term] a [b, c] rfl
     have e2 := j9 (.kind 37) [.term] b [c] rfl
     have e3 := j9 .term [] c [] rfl
     simp only [et, jk] at e1 e2 e3
     rw [e1, e2, e3]
     simp [dK, kH.is, Bool.and_assoc]
 · have := o4 [.term, .kind 37, .term] ks
   simp only [et, jk, lk, qm, bW, Nat.reduceAdd] at this
   cases hf : dK ks [⟨.term, 1, 1⟩, ⟨.kind 37, 1, 1⟩, ⟨.term, 1, 1⟩] with
   | true => exact absurd (this hf) h
   | false => simp [h]
end Go.Rip
namespace Go.Rip
open Go.Proofs Go.RowKit
section
variable {U : St} {bt : BT} {l : Bool} {k : IntKind} {a b : Int} {K' : AV -> St -> Prop} {Kp : AV -> St -> Prop}
theorem fz (h : K' (.bool (decide (a = b))) U) : (aq .eql bt l (.int k a) (.int k b)).wp K U K' Kp := by rw [aV]; exact h
theorem G6 (h : K' (.bool (!decide (a = b))) U) : (aq .neq bt l (.int k a) (.int k b)).wp K U K' Kp := by rw [cg]; exact h
theorem yQ (h : K' (.bool (decide (b <= a))) U) : (aq .geq bt l (.int k a) (.int k b)).wp K U K' Kp := by rw [fg]; exact h
theorem yR (h : K' (.bool (decide (b < a))) U) : (aq .gtr bt l (.int k a) (.int k b)).wp K U K' Kp := by rw [eu]; exact h
theorem fU {A B : Prop} (h : A) : ao (.bool true) A B := by rw [aK]; exact h
theorem fK {A B : Prop} (h : B) : ao (.bool false) A B := by rw [aE]; exact h
theorem fT {p : Prop} [Decidable p] {A B : Prop} (h : p -> A) (h' : ¬ p -> B) : ao (.bool (decide p)) A B := by rw [aT]; exact ⟨h, h'⟩
end
theorem J8 {v : AV} {ks : List Int} (hv : iJ v ks.length (jN ks)) (hl : ks.length <= 900) (k : Int) : Pure K 72 [.int .u8 k, v] (.bool (qH k ks)) := by
 intro U R hR
 refine Sd ?_
 unfold Uf
 have hlen : bD (some false) v = .val (.int .i64 ks.length) := hv.len
 have wY : ks.length <= 100000 := by omega
 rw [hlen, aj]
 refine fz ?_
 have out : ∀ {b : Bool}, qH k ks = b -> al R (.bool b) U := fun h => by rw [h] at hR; exact al.mk hR
 refine fT (fun h1 => ?_) fun h1 => ?_
 · refine (EU hv wY).go (out ?_)
   rw [h1]
   show dK ks [⟨.item, 0, 900⟩] = _
   rw [pA (p := ke) rfl rfl, decide_eq_true (by omega), Bool.true_and]
 intro j hj
 have Ez : k = 2 \/ k = 5 -> j v (.int .i64 ks.length) (.int .u8 k) (.bool true) U := fun hk => by
  refine hj _ _ _ _ _ ?_
  refine fU ?_
  refine fz ?_
  refine As hv Hw (fun h => by rw [ej] at h; omega) (out ?_)
  have hf : fo k = some ⟨true, false, false, [⟨.type, 1, 1⟩]⟩ := by rcases hk with rfl | rfl <;> rfl
  unfold qH
  rw [hf]
  show dK ks [⟨.type, 1, 1⟩] = _
  rw [pA (p := sB) rfl rfl]
  by_cases hn : ks.length = 1
  · match ks, hn with
    | [a], _ => simp
  · rw [decide_eq_false (by omega), decide_eq_false (by omega), Bool.false_and, Bool.false_and]
 have wA : k ≠ 2 -> k ≠ 5 -> j v (.int .i64 ks.length) (.int .u8 k) (.bool false) U := fun wZ FE => by
  refine hj _ _ _ _ _ ?_
  refine fK ?_
  intro j1 tG
  have EA : k = 3 \/ k = 4 -> j1 v (.int .i64 ks.length) (.int .u8 k) (.bool true) U := fun hk => by
   refine tG _ _ _ _ _ ?_
   refine fU ?_
   refine yQ ?_
   refine DR (b := 2) hv wY (by omega) (fun h => by omega) ?_
   refine Ar (b := 2) hv wY rm (by omega) (fun h => by rw [cF, ej] at h; omega) ?_
   refine Ar (b := 1) hv wY nf (by omega) (fun h => by simp only [cF, ej] at h; omega) (out ?_)
   have hf : fo k = some ⟨true, false, false, [⟨.kind 5, 0, 900⟩, ⟨.base, 1, 1⟩, ⟨.term, 1, 1⟩]⟩ := by rcases hk with rfl | rfl <;> rfl
   unfold qH
   rw [hf]
   show dK ks [⟨.kind 5, 0, 900⟩, ⟨.base, 1, 1⟩, ⟨.term, 1, 1⟩] = _
   rw [QI hl]
   have e2 : decide (((2 : Nat) : Int) <= (ks.length : Int)) = decide (2 <= ks.length) := by rw [decide_eq_decide]; omega
   simp only [<- e2]; rfl
  have TL : k ≠ 3 -> k ≠ 4 -> j1 v (.int .i64 ks.length) (.int .u8 k) (.bool false) U := fun DA Td => by
   refine tG _ _ _ _ _ ?_
   refine fK ?_
   refine fz (fT (fun h => ?_) fun hn8 => ?_)
   · refine yQ ?_
     refine qN (ET hv wY) (out ?_)
     rw [h]
     show dK ks [⟨.base, 2, 900⟩] = _
     rw [pA (p := lU) rfl rfl]
     congr 1; rw [decide_eq_decide]; omega
   refine fz (fT (fun h => ?_) fun hn9 => ?_)
   · refine yQ ?_
     refine qN (pS hv wY) (out ?_)
     rw [h]
     show dK ks [⟨.term, 2, 900⟩] = _
     rw [pA (p := dZ) rfl rfl]
     congr 1; rw [decide_eq_decide]; omega
   refine fz (fT (fun h => ?_) fun ada => ?_)
   · refine fz ?_
     refine qN (pS hv wY) (out ?_)
     rw [h]
     show dK ks [⟨.term, 3, 3⟩] = _
     rw [pA (p := dZ) rfl rfl]
     congr 1; rw [decide_eq_decide]; omega
   intro j2 mK
   have aa2 : fo k = some ⟨kF k, false, false, [⟨.term, 2, 2⟩]⟩ -> j2 v (.int .i64 ks.length) (.int .u8 k) (.bool true) U := fun hf => by
    refine mK _ _ _ _ _ ?_
    refine fU ?_
    refine fz ?_
    refine qN (pS hv wY) (out ?_)
    unfold qH
    rw [hf]
    show dK ks [⟨.term, 2, 2⟩] = _
    rw [pA (p := dZ) rfl rfl]
    congr 1; rw [decide_eq_decide]; omega
   have aba : k ≠ 11 -> k ≠ 13 -> k ≠ 15 -> k ≠ 17 -> k ≠ 18 -> ¬ (20 <= k /\ k <= 24) -> j2 v (.int .i64 ks.length) (.int .u8 k) (.bool false) U := fun m11 m13 m15 m17 m18 m20 => by
    refine mK _ _ _ _ _ ?_
    refine fK ?_
    intro j3 Dx
    have rn : ∀ f : HO, fo k = some f -> f.kids = [⟨.term, 1, 1⟩] -> j3 v (.int .i64 ks.length) (.int .u8 k) (.bool true) U := fun f hf S5 => by
     refine Dx _ _ _ _ _ ?_
     refine fU ?_
     refine fz ?_
     refine qN (pS hv wY) (out ?_)
     unfold qH
     rw [hf]
     show dK ks f.kids = _
     rw [S5, pA (p := dZ) rfl rfl]
     congr 1; rw [decide_eq_decide]; omega
    have abb : k ≠ 12 -> k ≠ 14 -> k ≠ 16 -> k ≠ 19 -> k ≠ 25 -> j3 v (.int .i64 ks.length) (.int .u8 k) (.bool false) U := fun m12 m14 m16 m19 m25 => by
     refine Dx _ _ _ _ _ ?_
     refine fK ?_
     refine fz (fT (fun h => ?_) fun m34 => ?_)
     · refine yQ ?_
       refine qN (Ha hv wY) (out ?_)
       rw [h]
       show dK ks [⟨.arg, 1, 900⟩] = _
       rw [pA (p := jG) rfl rfl]
       congr 1; rw [decide_eq_decide]; omega
     refine fz (fT (fun h => ?_) fun m35 => ?_)
     · refine yQ ?_
       refine DR (b := 1) hv wY (by omega) (fun h => by omega) ?_
       refine Ar (b := 1) hv wY nf (by omega) (fun h => by simp only [cF, ej] at h; omega) (out ?_)
       rw [h]
       show dK ks [⟨.kind 37, 1, 900⟩, ⟨.term, 1, 1⟩] = _
       rw [Xy hl]
       have e2 : decide (((2 : Nat) : Int) <= (ks.length : Int)) = decide (2 <= ks.length) := by rw [decide_eq_decide]; omega
       simp only [<- e2]; rfl
     refine fz (fT (fun h => ?_) fun m36 => ?_)
     · refine fz ?_
       refine As hv nf (fun h => by rw [ej] at h; omega) ?_
       refine Mu hv (fun h => by simp only [cF, ej] at h; omega) ?_
       refine As hv nf (fun h => by simp only [cF, ej] at h; omega) (out ?_)
       rw [h]
       show dK ks [⟨.term, 1, 1⟩, ⟨.kind 37, 1, 1⟩, ⟨.term, 1, 1⟩] = _
       rw [UJ hl]
       have e2 : decide ((ks.length : Int) = 3) = decide (ks.length = 3) := by rw [decide_eq_decide]; omega
       simp only [e2]; rfl
     intro j4 hj4
     have aa3 : fo k = some ⟨(kF k), rj k, false, []⟩ -> j4 (.int .i64 ks.length) (.bool true) U := fun hf => by
      refine hj4 _ _ _ ?_
      refine fU ?_
      refine fz ?_
      refine out ?_
      unfold qH
      rw [hf]
      show dK ks [] = _
      rw [dK, nq, List.isEmpty_iff, ej]
      constructor
      · rintro rfl; rfl
      · intro h; exact tk.1 (by omega)
     have last : fo k = none -> j4 (.int .i64 ks.length) (.bool false) U := fun hf => by
      refine hj4 _ _ _ ?_
      refine fK ?_
      refine out ?_
      unfold qH
      rw [hf]
     have Mt : ∀ b, b = true -> fo k = some ⟨(kF k), rj k, false, []⟩ -> j4 (.int .i64 ks.length) (.bool b) U := fun b hb h => by subst hb; exact aa3 h
     have aa1 : ∀ b, b = false -> fo k = none -> j4 (.int .i64 ks.length) (.bool b) U := fun b hb h => by subst hb; exact last h
     iterate 10
      refine fz (fT (fun h => Mt _ (by simpa using h) (by rw [h]; rfl)) fun _ => ?_)
     refine fz ?_
     by_cases h : k = 37
     · exact Mt _ (by simpa using h) (by rw [h]; rfl)
     · exact aa1 _ (by simpa using h) (uo (by omega))
    simp only [aV, aj, aT]
    refine ⟨fun h => ?_, fun m12 => ⟨fun h => ?_, fun m14 => ⟨fun h => ?_, fun m16 => ⟨fun h => ?_, fun m19 => ?_⟩⟩⟩⟩
    · simp only [h, cj]; rw [h] at rn; exact rn _ rfl rfl
    · simp only [h, cj]; rw [h] at rn; exact rn _ rfl rfl
    · simp only [h, cj]; rw [h] at rn; exact rn _ rfl rfl
    · simp only [h, cj]; rw [h] at rn; exact rn _ rfl rfl
    · by_cases h : k = 25
      · simp only [h, cj]; rw [h] at rn; exact rn _ rfl rfl
      · simp only [h, cM]; exact abb m12 m14 m16 m19 h
   have oU : ∀ b, b = true -> fo k = some ⟨kF k, false, false, [⟨.term, 2, 2⟩]⟩ -> j2 v (.int .i64 ks.length) (.int .u8 k) (.bool b) U := fun b hb h => by subst hb; exact aa2 h
   refine fz (fT (fun h => oU _ (by simpa using h) (by rw [h]; rfl)) fun m11 => ?_)
   refine fz (fT (fun h => oU _ (by simpa using h) (by rw [h]; rfl)) fun m13 => ?_)
   refine fz (fT (fun h => oU _ (by simpa using h) (by rw [h]; rfl)) fun m15 => ?_)
   refine fz (fT (fun h => oU _ (by simpa using h) (by rw [h]; rfl)) fun m17 => ?_)
   refine fz (fT (fun h => oU _ (by simpa using h) (by rw [h]; rfl)) fun m18 => ?_)
   refine fz (fT (fun h => oU _ (by simpa using h) (by rw [h]; rfl)) fun m20 => ?_)
   refine fz (fT (fun h => oU _ (by simpa using h) (by rw [h]; rfl)) fun m21 => ?_)
   refine fz (fT (fun h => oU _ (by simpa using h) (by rw [h]; rfl)) fun m22 => ?_)
   refine fz (fT (fun h => oU _ (by simpa using h) (by rw [h]; rfl)) fun m23 => ?_)
   refine fz ?_
   by_cases h : k = 24
   · exact oU _ (by simpa using h) (by rw [h]; rfl)
   · simp only [h, cM]; exact aba m11 m13 m15 m17 m18 (by omega)
  refine fz (fT (fun h => ?_) fun m3 => ?_)
  · simp only [h, cj]; rw [h] at EA; exact EA (.inl rfl)
  · refine fz ?_
    by_cases h : k = 4
    · simp only [h, cj]; rw [h] at EA; exact EA (.inr rfl)
    · simp only [h, cM]; exact TL m3 h
 refine fz (fT (fun h => ?_) fun m2 => ?_)
 · simp only [h, cj]; rw [h] at Ez; exact Ez (.inl rfl)
 · refine fz ?_
   by_cases h : k = 5
   · simp only [h, cj]; rw [h] at Ez; exact Ez (.inr rfl)
   · simp only [h, cM]; exact wA m2 h
def mW (x : Nd) : Bool := (kF x.kind == decide (x.text ≠ [])) && (!decide (x.text ≠ []) || nN x.text) && (if rj x.kind then ga x.n else decide (x.n = 0)) && (if x.kind = 12 then ga x.m else decide (x.m = 0))
theorem Ek : ∀ n : Fin 38, (match fo ((n.val : Nat) : Int) with | some f => f.text == kF (n.val : Nat) && f.n == rj (n.val : Nat) && f.m == decide (((n.val : Nat) : Int) = 12) | none => true) = true := by decide +kernel
theorem Fp {k : Int} {f : HO} (h : fo k = some f) : f.text = kF k /\ f.n = rj k /\ f.m = decide (k = 12) := by
 have hk : 1 <= k /\ k <= 37 := by
  by_cases h1 : k < 1 \/ 37 < k
  · rw [uo h1] at h; cases h
  · omega
 obtain ⟨n, rfl⟩ : ∃ n : Nat, k = n := ⟨k.toNat, by omega⟩
 have := Ek ⟨n, by omega⟩
 simp only [h, cF, beq_iff_eq] at this
 exact ⟨this.1.1, this.1.2, this.2⟩
theorem Lo {x : Nd} {f : HO} (h : fo x.kind = some f) : mW x = eW x f := by
 obtain ⟨h1, h2, h3⟩ := Fp h
 have z : ga 0 = true := by simp [ga]
 unfold mW eW
 rw [<- h1, <- h2]
 have hm : (if x.kind = 12 then ga x.m else decide (x.m = 0)) = (if f.m = true then ga x.m else decide (x.m = 0)) := by
  rw [h3]; by_cases h : x.kind = 12 <;> simp [h]
 rw [hm]
 have e0 : (x.text != []) = decide (x.text ≠ []) := by
  by_cases h : x.text = [] <;> simp [h]
 rw [e0]
 by_cases ht : x.text = []
 · have : nN [] = false := by decide
   cases f.text <;> cases f.n <;> cases f.m <;> by_cases hn : x.n = 0 <;> by_cases LP : x.m = 0 <;> simp [ht, hn, LP, z, this]
 · cases f.text <;> cases f.n <;> cases f.m <;> by_cases hn : x.n = 0 <;> by_cases LP : x.m = 0 <;> simp [ht, hn, LP, z]
end Go.Rip
namespace Go.Rip
open Go.Proofs Go.RowKit
theorem sE {f : FuncId} {args : List AV} {x : AV} {kq : AV -> Prop} (h : Pure K f args x) (hk : kq x) : ar K (aw.enter f args) kq := ⟨x, h, hk⟩
theorem YX {b o k : Nat} {kq : AV -> Prop} (h : kq (.box b (o + k))) : ar K (ag (some k) (.box b o)) kq := h
theorem QO {U : St} {b o : Nat} {L l : List AV} {x : AV} {kq : AV -> Prop} (hb : U.box b = some L) (hd : L.drop o = x :: l) (h : kq x) : ae K (.bool true) (av (some (false, 1)) (.box b o) U) kq := by rw [ld hb, hd]; exact h
theorem rp {U : St} {b o : Nat} {L l : List AV} {x : AV} {kq : AV -> Prop} (hb : U.box b = some L) (hd : L.drop o = x :: l) (h : kq x) : ar K (av (some (false, 1)) (.box b o) U) kq := by rw [ld hb, hd]; exact h
theorem qw {U τ : St} {b o : Nat} {L l : List AV} {x : AV} {K' : AV -> St -> Prop} {Kp : AV -> St -> Prop} (hb : U.box b = some L) (hd : L.drop o = x :: l) (h : K' x τ) : (av (some (false, 1)) (.box b o) U).wp K τ K' Kp := by rw [ld hb, hd]; exact h
theorem Hm (x : Nd) (hs : x.text.length <= 100000) : Pure K 71 [.agg (fO x)] (.bool (mW x)) := by
 refine Pure.of rfl rfl (fun U => rfl) fun R hR => ?_
 refine Sc ?_
 unfold Ue
 rw [jR rfl]
 intro b hb
 have m : ((bX ⟨.e, 0⟩).new b (.box (aC (.agg (fO x))))).box b = some (fO x) := aW
 generalize (bX _).new b _ = U at *
 clear hb
 have out : ∀ {b : Bool}, mW x = b -> al R (.bool b) U := fun h => by rw [h] at hR; exact al.mk (hR _)
 refine YX (rp m rfl (sE (Lz _) ?_))
 refine YX (rp m rfl ?_)
 rw [iX, aJ, E0, aJ]
 have hw : (!decide (x.text = w_)) = decide (x.text ≠ []) := by
  by_cases h : x.text = [] <;> simp [h, w_]
 rw [hw]
 have rest : (kF x.kind != decide (x.text ≠ [])) = false -> (decide (x.text ≠ []) && !nN x.text) = false ->
  (ag (some 0) (.box b 0)).wp K U (fun v21 U =>
  (av (some (false, 1)) v21 U).wp K U (fun bY U =>
  ad K 136 [bY] U (ai (fun cR U =>
  ae K (au cR true) (ag (some 2) (.box b 0)) (fun dz =>
  ae K (au cR true) (av (some (false, 1)) dz U) (fun df =>
  ae K (au cR true) (aw.enter 137 [df]) (fun di =>
  ae K (au cR true) (fZ .not di) (fun v28 =>
  (aY cR v28 (AV.bool false)).wp K U (fun cO U =>
  ae K (au cO false) (ag (some 0) (.box b 0)) (fun v31 =>
  ae K (au cO false) (av (some (false, 1)) v31 U) (fun ep =>
  ae K (au cO false) (aw.enter 136 [ep]) (fun dY =>
  ae K (au cO false) (fZ .not dY) (fun eK =>
  ae K (au cO false) (aw.val eK) (fun ef =>
  ae K (au ef true) (ag (some 2) (.box b 0)) (fun dH =>
  ae K (au ef true) (av (some (false, 1)) dH U) (fun v37 =>
  ae K (au ef true) (aq .neq (BT.mk false false false none) true v37 (AV.int .i64 0)) (fun eL =>
  ae K (au cO false) (aY ef eL (AV.bool false)) (fun gn =>
  (aY cO (AV.bool true) gn).wp K U (fun v40 U =>
  ao v40 (
   al R (AV.bool false) U) (
   (ag (some 0) (.box b 0)).wp K U (fun gT U =>
   (av (some (false, 1)) gT U).wp K U (fun kD U =>
   (aq .eql (BT.mk false false false none) true kD (AV.int .u8 12)).wp K U (fun eJ U =>
   ae K (au eJ true) (ag (some 3) (.box b 0)) (fun ig =>
   ae K (au eJ true) (av (some (false, 1)) ig U) (fun v46 =>
   ae K (au eJ true) (aw.enter 137 [v46]) (fun jH =>
   (aY eJ jH (AV.bool false)).wp K U (fun gp U =>
   ae K (au gp false) (ag (some 0) (.box b 0)) (fun fx =>
   ae K (au gp false) (av (some (false, 1)) fx U) (fun v51 =>
   ae K (au gp false) (aq .neq (BT.mk false false false none) true v51 (AV.int .u8 12)) (fun iD =>
   ae K (au gp false) (aw.val iD) (fun v53 =>
   ae K (au v53 true) (ag (some 3) (.box b 0)) (fun iQ =>
   ae K (au v53 true) (av (some (false, 1)) iQ U) (fun gD =>
   ae K (au v53 true) (aq .eql (BT.mk false false false none) true gD (AV.int .i64 0)) (fun lE =>
   ae K (au gp false) (aY v53 lE (AV.bool false)) (fun jx =>
   (aY gp (AV.bool true) jx).wp K U (fun kX U =>
   al R kX U) (aa R)))))))))) (aa R))))) (aa R)) (aa R)) (aa R))) (aa R))))))))))) (aa R)))))) (aa R))) (aa R)) (aa R) := by
  intro h1 h2
  have sT : mW x = ((if rj x.kind then ga x.n else decide (x.n = 0)) && (if x.kind = 12 then ga x.m else decide (x.m = 0))) := by
   unfold mW
   cases ha : kF x.kind <;> cases hb : decide (x.text ≠ []) <;> cases hc : nN x.text <;> simp_all
  rw [sT] at out
  clear sT hR hw
  simp only [aR, aj, bW]
  refine qw m rfl ((xJ _).go ?_)
  have second : (if rj x.kind then ga x.n else decide (x.n = 0)) = true -> (av (some (false, 1)) (.box b 0) U).wp K U (fun kD U =>
   (aq .eql (BT.mk false false false none) true kD (AV.int .u8 12)).wp K U (fun eJ U =>
   ae K (au eJ true) (.val (.box b 3)) (fun ig =>
   ae K (au eJ true) (av (some (false, 1)) ig U) (fun v46 =>
   ae K (au eJ true) (aw.enter 137 [v46]) (fun jH =>
   (aY eJ jH (AV.bool false)).wp K U (fun gp U =>
   ae K (au gp false) (.val (.box b 0)) (fun fx =>
   ae K (au gp false) (av (some (false, 1)) fx U) (fun v51 =>
   ae K (au gp false) (aq .neq (BT.mk false false false none) true v51 (AV.int .u8 12)) (fun iD =>
   ae K (au gp false) (aw.val iD) (fun v53 =>
   ae K (au v53 true) (.val (.box b 3)) (fun iQ =>
   ae K (au v53 true) (av (some (false, 1)) iQ U) (fun gD =>
   ae K (au v53 true) (aq .eql (BT.mk false false false none) true gD (AV.int .i64 0)) (fun lE =>
   ae K (au gp false) (aY v53 lE (AV.bool false)) (fun jx =>
   (aY gp (AV.bool true) jx).wp K U (fun kX U =>
   al R kX U) (aa R)))))))))) (aa R))))) (aa R)) (aa R) := by
   intro h3
   rw [h3, Bool.true_and] at out
   refine qw m rfl (fz ?_)
   by_cases hk : x.kind = 12
   · simp only [hk, cj, aS, dN]
     refine c8 (QO m rfl (mX (BG _) ?_))
     simp only [aF, if_true, aj]
     rw [if_pos hk] at out
     cases hm : ga x.m with
     | true =>
       simp only [aS, show (true == false) = false from rfl, aM, bz, hX, aF, if_true, aj]
       exact out hm
     | false =>
       simp only [aS, dN]
       refine c8 (QO m rfl ?_)
       simp only [fO, List.drop, cg, hk, cj, cC, aM, bG, aJ, aS, show (false == true) = false from rfl, bz, aF, bH, if_false, aj]
       exact out hm
   · rw [if_neg hk] at out
     simp only [hk, cM, aS, show (false == true) = false from rfl, aM, bz, aF, bH, if_false, aj, dN, bG, aJ]
     refine rp m rfl ?_
     simp only [cg, hk, cM, dk, aJ, aS, dN, aM, bG]
     refine rp m rfl ?_
     simp only [aV, aJ, aF, if_true, bH, if_false, aj]
     exact out rfl
  cases hn : rj x.kind with
  | true =>
    rw [hn] at second out
    simp only [if_true] at second out
    simp only [aS, dN]
    refine c8 (QO m rfl (mX (BG _) ?_))
    simp only [cZ, aM, bG, aJ, aF, if_true, aj]
    cases hv : ga x.n with
    | false =>
      simp only [dk, aS, show (true == false) = false from rfl, aM, bz, hX, aF, if_true, aj]
      refine fU (out ?_)
      rw [hv]; rfl
    | true =>
      simp only [cC, aS, dN]
      simp only [aM, bG, aJ]
      refine rp m rfl (sE (xJ _) ?_)
      rw [hn]
      simp only [cZ, cC, aJ, aS, show (false == true) = false from rfl, aM, bz, aF, bH, if_false, aj]
      exact fK (second hv)
  | false =>
    rw [hn] at second out
    simp only [bH, if_false] at second out
    simp only [aS, show (false == true) = false from rfl, aM, bz, aF, bH, if_false, aj, dN, bG, aJ]
    refine rp m rfl (sE (xJ _) ?_)
    rw [hn]
    simp only [cZ, dk, aJ, aS, dN, aM, bG]
    refine rp m rfl ?_
    simp only [cg, aJ, aF, if_true, bH, if_false, aj]
    by_cases h0 : x.n = 0
    · simp only [h0, cj, cC]
      exact fK (second (by simp [h0]))
    · simp only [h0, cM, dk]
      exact fU (out (by simp [h0]))
 have hff : (kF x.kind != decide (x.text ≠ [])) = true \/ (decide (x.text ≠ []) && !nN x.text) = true -> mW x = false := fun h => by
  unfold mW
  cases ha : kF x.kind <;> cases hb : decide (x.text ≠ []) <;> cases hc : nN x.text <;> simp_all
 cases h1 : (kF x.kind != decide (x.text ≠ [])) with
 | true =>
   simp only [aS, show (true == false) = false from rfl, aM, bz, hX, aF, if_true, aJ]
   exact fU (out (hff (.inl h1)))
 | false =>
   simp only [aS, dN, aR, aM, bG, aJ, bW]
   refine rp m rfl ?_
   rw [iX, aJ, hw]
   cases h0 : decide (x.text ≠ []) with
   | false =>
     simp only [aS, show (false == true) = false from rfl, aM, bz, aJ, aF, bH, if_false]
     exact fK (rest h1 (by rw [h0]; rfl))
   | true =>
     simp only [aS, dN, aM, bG, aJ]
     refine rp m rfl (sE (Hv _ hs) ?_)
     simp only [cZ, aJ, aF, if_true, bH, if_false]
     cases hn : nN x.text with
     | true => exact fK (rest h1 (by rw [hn]; simp))
     | false => exact fU (out (hff (.inr (by rw [h0, hn]; rfl))))
end Go.Rip
namespace Go.Rip
open Go.Proofs Go.RowKit
def qe (x : Nd) (ks : List Int) : Bool := mW x && qH x.kind ks
theorem Gg {k : Int} {t : aZ} {n m a : Int} {ks : List Tre} {x : Nd} (h1 : x.kind = k) (h2 : x.text = t) (h3 : x.n = n) (h4 : x.m = m) : (Tre.mk k t n m a ks).ok = (qe x (ks.map Tre.kind) && Tre.r9 ks) := by
 rw [Tre.ok]
 congr 1
 unfold qe qH
 rw [h1]
 cases hf : fo k with
 | none => simp
 | some f =>
   rw [Lo (f := f) (by rw [h1]; exact hf)]
   congr 1
   unfold eW
   simp only [h2, h3, h4]
theorem wF {l : List Nd} : ∀ {ts : List Tre} {p q lW : Nat}, lL l p ts -> (cX p ts)[q]? = some lW -> ∃ u, ts[q]? = some u /\ gU l lW u
 | [], p, q, lW, h, hk => by simp [cX] at hk
 | t :: ts, p, 0, lW, h, hk => by simp [cX] at hk; subst hk; exact ⟨t, rfl, h.head⟩
 | t :: ts, p, q + 1, lW, h, hk => by
   simp only [cX, List.getElem?_cons_succ] at hk
   obtain ⟨u, h1, h2⟩ := wF h.tail hk
   exact ⟨u, by simpa using h1, h2⟩
theorem Gn {l : List Nd} : ∀ (N : Nat) (ts : List Tre) (p : Nat), (Tre.bV ts).length <= N -> lL l p ts -> (∀ j s x, p <= j -> j < p + (Tre.bV ts).length -> gU l j s -> l[j]? = some x -> qe x (s.kids.map Tre.kind) = true) -> Tre.r9 ts = true
 | _, [], _, _, _, _ => by simp
 | 0, t :: ts, _, hN, _, _ => by have := t.eh; simp only [Tre.dj, eQ] at hN; omega
 | N + 1, .mk k tx n m a ks :: ts, p, hN, h, cq => by
   have pX : (Tre.mk k tx n m a ks).flat.length = (Tre.bV ks).length + 1 := nI (.mk k tx n m a ks)
   simp only [Tre.dj, eQ] at hN cq
   rw [Tre.td]
   obtain ⟨x, hx, h1, h2, h3, h4, h5, h6⟩ := h.head.ru
   rw [Gg (k := k) (t := tx) (n := n) (m := m) (x := x) h1 h3 h4 h5]
   have e1 : qe x (ks.map Tre.kind) = true := cq p _ x (cG _) (by omega) h.head hx
   have e2 := Gn N ks (p + 1) (by omega) h.head.kids fun j s y tG mK => cq j s y (by omega) (by omega)
   have e3 := Gn N ts (p + (Tre.flat (.mk k tx n m a ks)).length) (by omega) h.tail fun j s y tG mK => cq j s y (by omega) (by omega)
   rw [e1, e2, e3]; rfl
theorem Qc {t : Tre} (h : t.ok = true) {i : Nat} {s : Tre} (hs : gU t.flat i s) : s.ok = true := by
 have hi : i < t.flat.length := by have := hs.le; have := s.eh; omega
 obtain ⟨s', h1, h2⟩ := zk (l := t.flat) t.flat.length [t] 0 (by simp) ⟨[], by simp⟩ i (by omega) (by simpa using hi)
 rw [hs.inj h1]
 exact h2 (by simp [h])
theorem Gm {s : Tre} (h : s.ok = true) {l : List Nd} {i : Nat} {x : Nd} (hs : gU l i s) (hx : l[i]? = some x) : qe x (s.kids.map Tre.kind) = true := by
 obtain ⟨y, hy, h1, h2, h3, h4, h5, h6⟩ := hs.ru
 rw [hx] at hy; cases hy
 cases s with
 | mk k tx n m a ks =>
   rw [Gg (k := k) (t := tx) (n := n) (m := m) (x := x) h1 h3 h4 h5, cF] at h
   exact h.1
theorem H6 : ∀ (ss : List uO) (ks : List Int), dK ks ss = true -> ∀ k ∈ ks, ∃ s ∈ ss, s.c.is k = true
 | [], ks, h, k, hk => by rw [dK, List.isEmpty_iff] at h; subst h; simp at hk
 | s :: ss, ks, h, k, hk => by
   rw [dK] at h
   split at h
   · cases h
   · generalize hq : ((ks.take (min (ks.length - (ss.map (·.least)).sum) s.CS)).takeWhile s.c.is) = q at *
     have Ap : q <+: ks := by
      rw [<- hq]
      exact (rT _).trans (List.take_prefix _ _)
     have lS : ks = q ++ ks.drop q.length := by
      obtain ⟨r, hr⟩ := Ap
      rw [<- hr]; simp
     rw [lS, gg] at hk
     rcases hk with hk | hk
     · refine ⟨s, by simp, ?_⟩
       have : ∀ l : List Int, k ∈ l.takeWhile s.c.is -> s.c.is k = true := fun l => by
        induction l with
        | nil => simp
        | cons a l ih =>
          rw [pn]
          split
          · rename_i ha
            intro h
            rcases fC.1 h with rfl | h
            · exact ha
            · exact ih h
          · simp
       rw [<- hq] at hk
       exact this _ hk
     · obtain ⟨s', h1, h2⟩ := H6 ss _ h k hk
       exact ⟨s', by simp [h1], h2⟩
theorem U0 : ∀ n : Fin 38, (match fo ((n.val : Nat) : Int) with | some f => f.kids.all fun s => !s.c.is 1 | none => true) = true := by decide +kernel
theorem YT {k : Int} {ks : List Int} (h : qH k ks = true) : (1 : Int) ∉ ks := by
 intro hm
 unfold qH at h
 split at h
 · rename_i f hf
   obtain ⟨s, h1, h2⟩ := H6 _ _ h 1 hm
   have hk : 1 <= k /\ k <= 37 := by
    by_cases h1 : k < 1 \/ 37 < k
    · rw [uo h1] at hf; cases hf
    · omega
   obtain ⟨n, rfl⟩ : ∃ n : Nat, k = n := ⟨k.toNat, by omega⟩
   have := U0 ⟨n, by omega⟩
   simp only [hf, eY] at this
   have := this s h1
   rw [h2] at this; cases this
 · cases h
theorem Vq {t : Tre} (h : t.ok = true) {i : Nat} {s : Tre} (hs : gU t.flat i s) (hi : 0 < i) : s.kind ≠ 1 := by
 have aL : i < t.flat.length := by have := hs.le; have := s.eh; omega
 rcases (place t aL).2 with h0 | ⟨i', s', h1, h2, h3⟩
 · omega
 · obtain ⟨q, hq, LS⟩ := List.getElem_of_mem h3
   obtain ⟨u, Yz, LZ⟩ := wF h2.kids (show (cX (i' + 1) s'.kids)[q]? = some i by rw [<- LS]; simp)
   have := hs.inj LZ
   subst this
   have dT := Qc h h2
   obtain ⟨x, hx, hk, _⟩ := h2.ru
   have hn := Gm dT h2 hx
   unfold qe at hn
   rw [cF] at hn
   intro e
   refine YT hn.2 ?_
   rw [<- e]
   exact List.mem_map_of_mem (gK Yz)
theorem Ld {l : List Nd} (h9 : ¬ 900 < l.length) (h : ¬ yV l) : pU l = 4 := by
 unfold pU
 rw [if_neg h9, Qf (fun h' => h ((Ed l).2 h'))]
end Go.Rip
namespace Go.Rip
open Go.Proofs Go.RowKit
theorem vF {U : St} {bt : BT} {l : Bool} {k : IntKind} {a b : Int} {A B : AV -> St -> Prop} {Kp : AV -> St -> Prop} (h : a < b -> A (.bool true) U) (h' : ¬ a < b -> B (.bool false) U) : (aq .lss bt l (.int k a) (.int k b)).wp K U (fun v U => ao v (A v U) (B v U)) Kp := by
 rw [bh, aj]
 by_cases hc : a < b
 · simp only [hc, cj]; exact fU (h hc)
 · simp only [hc, cM]; exact fK (h' hc)
theorem UL {U : St} {v : AV} {l : List Nd} {i : Nat} {x : Nd} {cb : Bool} {c : Int} {bt : BT} {lb : Bool} {K' : AV -> St -> Prop} {Kp : AV -> St -> Prop} (h : gH U v l) (hx : l[i]? = some x) (hk : K' (.bool (cb && decide (x.kind = c))) U) :
 ae K (au (.bool cb) true) (aw.val v) fun a => ae K (au (.bool cb) true) (aw.val (.int .i64 (i : Nat))) fun b => ae K (au (.bool cb) true) (aH (some (43, 6)) none a b) fun p => ae K (au (.bool cb) true) (ag (some 0) p) fun q =>
  ae K (au (.bool cb) true) (av (some (false, 1)) q U) fun y => ae K (au (.bool cb) true) (aq .eql bt lb y (.int .u8 c)) fun z => (aY (.bool cb) z (.bool false)).wp K U K' Kp := by
 cases cb with
 | true =>
   simp only [aS, dN]
   refine c8 (c8 (QN h hx (Km x) ?_))
   rw [aV]
   refine c8 ?_
   simp only [aF, if_true, aj]
   simpa using hk
 | false =>
   simp only [aS, show (false == true) = false from rfl, aM, bz, aF, bH, if_false, aj]
   simpa using hk
theorem UF {U : St} {R : cS -> St -> Prop} {v : AV} {l : List Nd} (hv : gH U v l) (hl : l.length <= 50000) (Iq : ∀ x ∈ l, x.text.length <= 100000)
 (h : ∀ af, dr U af -> R (.ret (.int .i64 (pU l))) af) : ad K 31 [.agg [v]] U R := by
 refine RY ?_
 unfold TU
 rw [jR rfl]
 intro b1 hY
 have m1 : (U.new b1 (.box (aC (.agg [v])))).box b1 = some [v] := aW
 have e1 := cE hY (x := .box (aC (.agg [v])))
 generalize U.new b1 (.box (aC (.agg [v]))) = bP at *
 clear hY
 simp only [aR, aj, bW]
 refine qw m1 rfl ?_
 have L5 := hv.sO e1
 rw [L5.len, aj]
 refine yR (fT (fun h9 => ?_) fun h9 => ?_)
 · have : pU l = 5 := by unfold pU; rw [if_pos (by omega)]
   rw [this] at h
   exact al.mk (h _ e1)
 have h9 : ¬ 900 < l.length := by omega
 refine Vl L5 (by omega) (fun hS => ?_) fun hS => ?_
 rotate_left
 · simp only [bg, cZ, aj, dk, aS, show (true == false) = false from rfl, aM, bz, aF, if_true]
   refine fU ?_
   rw [Ld h9 hS] at h
   exact al.mk (h _ e1)
 obtain ⟨t, ht⟩ := (Ed l).1 hS
 subst ht
 rw [Dj t h9] at h
 clear hS
 have Bz := gU.whole t
 obtain ⟨x0, hx0, LL, _⟩ := Bz.ru
 have uu := t.eh
 simp only [bg, cZ, aj, cC, aS, dN, aM, bG, aJ]
 refine RF (i := 0) L5 hx0 (Km x0) ?_
 rw [cg, aJ]
 simp only [aF, bH, if_false, aj, LL]
 by_cases oA : t.kind = 1
 rotate_left
 · simp only [oA, cM, dk]
   refine fU ?_
   have : vM t = 4 := by unfold vM; rw [if_pos (.inl oA)]
   rw [this] at h
   exact al.mk (h _ e1)
 simp only [oA, cj, cC]
 refine fK ?_
 have bad : t.ok = false -> ∀ af, dr U af -> al R (.int .i64 4) af := fun ho af e => by
  have : vM t = 4 := by unfold vM; rw [if_pos (.inr ho)]
  rw [this] at h
  exact al.mk (h _ e)
 refine ⟨fun m v3 v4 af => ∃ i : Nat, m = t.flat.length - i /\ v3 = v /\ v4 = .int .i64 (i : Nat) /\ i <= t.flat.length /\ dr U af /\ ∀ j s x, j < i -> gU t.flat j s -> t.flat[j]? = some x -> qe x (s.kids.map Tre.kind) = true, ⟨_, 0, rfl, rfl, rfl, by omega, e1, fun j s x h => by omega⟩, ?_⟩
 rintro m v3 v4 bI ⟨i, rfl, rfl, rfl, hi, e2, hN⟩
 have DF := hv.sO e2
 rw [DF.len, aj]
 refine vF (fun aL => ?_) fun gk => ?_
 · have aL : i < t.flat.length := by omega
   obtain ⟨⟨s, _, hs, _⟩, _⟩ := place t aL
   refine F5 DF hs (by omega) fun bQ dY g3 => ?_
   have qA : (cX (i + 1) s.kids).length = s.kids.length := mQ _ _
   have BC : iJ dY (cX (i + 1) s.kids).length (gQ (cX (i + 1) s.kids)) := by rw [qA]; exact g3.sl
   have hle := hs.le
   have pX := nI s
   have hkk := Tre.pB s.kids
   simp only [bg]
   have e3 := e2.trans g3.ex
   refine ⟨fun m w3 w4 v5 v6 v7 af => ∃ q : Nat, m = s.kids.length - q /\ w3 = v3 /\ w4 = .int .i64 (i : Nat) /\ v6 = dY /\ v7 = .int .i64 (q : Nat) /\ q <= s.kids.length /\ eU U af v5 5 1 q (jN ((s.kids.take q).map Tre.kind)),
    ⟨_, 0, rfl, rfl, rfl, rfl, rfl, by omega, by simpa [jN] using eU.nil e3⟩, ?_⟩
   clear e3
   rintro m w3 w4 v5 v6 v7 cz ⟨q, rfl, rfl, rfl, rfl, rfl, hq, g⟩
   have aaS : bD (some false) v6 = .val (.int .i64 (cX (i + 1) s.kids).length) := BC.len
   have FR := hv.sO g.ex
   rw [aaS, aj, qA]
   refine vF (fun Ys => ?_) fun Ys => ?_
   · have Ys : q < s.kids.length := by omega
     obtain ⟨lW, Am⟩ : ∃ lW, (cX (i + 1) s.kids)[q]? = some lW := ⟨(cX (i + 1) s.kids)[q]'(by omega), by simp⟩
     obtain ⟨u, Yz, LZ⟩ := wF hs.kids Am
     obtain ⟨y, hy, hyk, _⟩ := LZ.ru
     refine ZJ BC Am ?_
     refine AO FR hy (Km y) ?_
     refine KU rfl rfl ?_
     refine Cc g (m := 1) (l2 := [.int .u8 y.kind]) rfl rfl (by omega) (by omega) fun dm v' g5 _ => ?_
     rw [cI]
     refine ⟨bp (by omega) (by omega), s.kids.length - (q + 1), by omega, q + 1, rfl, rfl, rfl, rfl, by simp, Ys, ?_⟩
     have : (s.kids.take (q + 1)).map Tre.kind = (s.kids.take q).map Tre.kind ++ [y.kind] := by
      rw [qS, Yz, List.map_append, hyk]; rfl
     rw [this]
     simpa [jN] using g5
   · have hq : q = s.kids.length := by omega
     subst hq
     rw [ql] at g
     obtain ⟨x, hx, hxk, _⟩ := hs.ru
     have ab4 : iJ v5 (s.kids.map Tre.kind).length (jN (s.kids.map Tre.kind)) := by rw [List.length_map]; exact g.sl
     have hxt := Iq x (gK hx)
     refine yR ?_
     refine UL FR hx ?_
     cases ur : (decide ((0 : Int) < ((i : Nat) : Int)) && decide (x.kind = 1)) with
     | true =>
       simp only [aS, show (true == false) = false from rfl, aM, bz, aF, if_true, aj]
       refine fU (bad ?_ _ g.ex)
       cases Yw : t.ok with
       | false => rfl
       | true => simp only [cF, ej] at ur; exact absurd (hxk ▸ ur.2) (Vq Yw hs (by omega))
     | false =>
       simp only [aS, dN, aM, bG, aJ]
       refine FR.nd hx (sE (Hm x hxt) ?_)
       simp only [cZ, aJ, aF, bH, if_false, aj]
       have YQ : qe x (s.kids.map Tre.kind) = false -> al R (AV.int .i64 4) cz := fun Yk => by
        refine bad ?_ _ g.ex
        cases Yw : t.ok with
        | false => rfl
        | true =>
          have := Gm (Qc Yw hs) hs hx
          rw [Yk] at this; cases this
       cases hf : mW x with
       | false =>
         simp only [dk, aS, show (true == false) = false from rfl, aM, bz, aF, if_true, aj]
         refine fU (YQ ?_)
         unfold qe; rw [hf]; rfl
       | true =>
         simp only [cC, aS, dN, aM, bG, aJ]
         refine RF FR hx (Km x) ?_
         refine sE (J8 ab4 (by simp; omega) x.kind) ?_
         simp only [cZ, aJ, aF, bH, if_false, aj]
         cases S5 : qH x.kind (s.kids.map Tre.kind) with
         | false => exact fU (YQ (by unfold qe; rw [hf, S5]; rfl))
         | true =>
           refine fK ?_
           rw [cI]
           refine ⟨bp (by omega) (by omega), t.flat.length - (i + 1), by omega, i + 1, rfl, rfl, by simp, by omega, g.ex, fun j s' x' hj dT jF => ?_⟩
           rcases eZ j i with h | h
           · exact hN j s' x' h dT jF
           · have : j = i := by omega
             subst this
             rw [hx] at jF; cases jF
             rw [dT.inj hs]
             unfold qe; rw [hf, S5]; rfl
 · have hi : i = t.flat.length := by omega
   subst hi
   have cW : t.ok = true := by
    have := Gn (l := t.flat) _ [t] 0 (cG _) ⟨[], by simp⟩ (fun j s x _ hj hs hx => hN j s x (by simpa using hj) hs hx)
    simpa using this
   have XX : vM t = if 60 < t.deep \/ 24 < t.kids.length then 5 else 0 := by unfold vM; rw [if_neg (by simp [oA, cW])]
   rw [XX] at h
   clear XX bad hN
   refine Qw DF (by omega) fun b8 bQ f8 m8 e3 => ?_
   have hDl := uk 0 t
   have Xu := e2.trans e3
   simp only [bg]
   refine ⟨fun m w3 v8 v9 af => ∃ j : Nat, m = t.flat.length - j /\ w3 = v3 /\ v8 = .ms b8 0 t.flat.length 1 3 /\ v9 = .int .i64 (j : Nat) /\ j <= t.flat.length /\ af = bQ /\ ∀ j' d, j' < j -> (nF 0 t)[j']? = some d -> ¬ 60 < d, ⟨_, 0, rfl, rfl, rfl, rfl, by omega, rfl, fun j' d h => by omega⟩, ?_⟩
   rintro m w3 v8 v9 cz ⟨j, rfl, rfl, rfl, rfl, hj, rfl, hD⟩
   have FR := hv.sO Xu
   rw [FR.len, aj]
   refine vF (fun aL => ?_) fun gk => ?_
   · have aL : j < t.flat.length := by omega
     obtain ⟨d, hd⟩ : ∃ d, (nF 0 t)[j]? = some d := ⟨(nF 0 t)[j]'(by omega), by simp⟩
     rw [wO]
     refine ⟨⟨by omega, by omega, rfl⟩, ?_⟩
     obtain ⟨r, hr⟩ := vY hd
     rw [eG m8, dR, Nat.mul_one, bW, hr, bq]
     refine yR (fT (fun h6 => ?_) fun h6 => ?_)
     · have : 60 < t.deep := (Fe t).1 ⟨d, gK hd, by omega⟩
       rw [if_pos (.inl this)] at h
       exact al.mk (h _ Xu)
     · rw [cI]
       refine ⟨bp (by omega) (by omega), t.flat.length - (j + 1), by omega, j + 1, rfl, rfl, rfl, by simp, aL, rfl, fun j' d' Fy pC => ?_⟩
       rcases eZ j' j with h | h
       · exact hD j' d' h pC
       · have : j' = j := by omega
         subst this; rw [hd] at pC; cases pC; omega
   · have hj : j = t.flat.length := by omega
     subst hj
     have hnd : ¬ 60 < t.deep := fun h6 => by
      obtain ⟨d, h1, h2⟩ := (Fe t).2 h6
      obtain ⟨q, hq, LS⟩ := List.getElem_of_mem h1
      exact hD q d (by omega) (by rw [<- LS]; simp) h2
     refine F5 (i := 0) FR Bz (by omega) fun dm v93 g5 => ?_
     have hlen : bD (some false) v93 = .val (.int .i64 t.kids.length) := g5.sl.len
     simp only [bg, hlen, aj]
     have e5 := Xu.trans g5.ex
     refine yR (fT (fun h6 => ?_) fun h6 => ?_)
     · rw [if_pos (.inr (by omega))] at h
       exact al.mk (h _ e5)
     · rw [if_neg (by omega)] at h
       exact al.mk (h _ e5)
end Go.Rip
