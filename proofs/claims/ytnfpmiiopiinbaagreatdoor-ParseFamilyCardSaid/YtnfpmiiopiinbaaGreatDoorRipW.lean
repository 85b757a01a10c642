/- Lemmas for the proof: no conditions. -/
import Derived.Test.YtnfpmiiopiinbaaGreatDoorRipZz
import Derived.Test.YtnfpmiiopiinbaaGreatDoorRipV
import Derived.Test.YtnfpmiiopiinbaaGreatDoorRipF
set_option linter.unusedVariables false
set_option linter.unusedSimpArgs false
set_option linter.loopingSimpArgs false
namespace Go.Rip
open Go.Proofs Go.RowKit
def nQ (k : Int) (ks : List Int) : Bool := match eC k with | some f => dk ks f.kids | none => false
theorem mC {k : Int} (h : k < 1 \/ 37 < k) : eC k = none := by
 unfold eC
 repeat rw [if_neg (by omega)]
section
variable {U : St} {R : cB -> St -> Prop} {v : AV} {ks : List Int} {c : Prop} [Decidable c] {q : Bool} {f : FuncId} {Kp : AV -> St -> Prop} {K' : AV -> St -> Prop} {Kp : AV -> St -> Prop}
theorem oz (hp : Pure K f [v] (.bool q)) (hk : K' (.bool (decide c && q)) U) :
 ad K (aq (.bool (decide c)) true) (av.val v) fun zD => ad K (aq (.bool (decide c)) true) (av.enter f [zD]) fun v91 => (aP (.bool (decide c)) v91 (.bool false)).wp K U K' Kp := by
 by_cases hc : c
 · simp only [hc, bM, aI, du]
   refine db (pR hp ?_)
   simp only [ay, if_true, ai]
   simpa [hc] using hk
 · simp only [hc, bZ, aI, show (false == true) = false from rfl, aB, a8, ay, bm, if_false, ai]
   simpa [hc] using hk
theorem xU {i : Int} {e : Nat} {p : Int -> Bool} {cb : Bool} (hv : dX v ks.length (eF ks)) (hp : ∀ k, Pure K f [.int .u8 k] (.bool (p k))) (hi : cb = true -> 0 <= i /\ i < ks.length) (hk : K' (.bool (cb && p (ks.getD i.toNat 0))) U) :
 ad K (aq (.bool cb) true) (av.val v) fun cw => ad K (aq (.bool cb) true) (aF (some (e, 1)) none cw (AV.int .i64 i)) fun v20 => ad K (aq (.bool cb) true) (ao (some (false, 1)) v20 U) fun v21 =>
  ad K (aq (.bool cb) true) (av.enter f [v21]) fun ck => (aP (.bool cb) ck (.bool false)).wp K U K' Kp := by
 cases cb with
 | true =>
   obtain ⟨h0, h1⟩ := hi rfl
   obtain ⟨j, rfl⟩ : ∃ j : Nat, i = j := ⟨i.toNat, by omega⟩
   have aJ : j < ks.length := by omega
   have hx : ks[j]? = some ks[j] := by simp [aJ]
   simp only [aI, du]
   refine db (CG hv hx (pR (hp _) ?_))
   simp only [ay, if_true, ai]
   have : ks.getD (j : Int).toNat 0 = ks[j] := by rw [dC, rW, hx]; rfl
   rw [this] at hk
   simpa using hk
 | false =>
   simp only [aI, show (false == true) = false from rfl, aB, a8, ay, bm, if_false, ai]
   simpa using hk
theorem Jg {i c : Int} {e : Nat} {cb : Bool} {bt : BT} {lb : Bool} (hv : dX v ks.length (eF ks)) (hi : cb = true -> 0 <= i /\ i < ks.length) (hk : K' (.bool (cb && decide (ks.getD i.toNat 0 = c))) U) :
 ad K (aq (.bool cb) true) (av.val v) fun cw => ad K (aq (.bool cb) true) (aF (some (e, 1)) none cw (AV.int .i64 i)) fun v20 => ad K (aq (.bool cb) true) (ao (some (false, 1)) v20 U) fun v21 =>
  ad K (aq (.bool cb) true) (ak .eql bt lb v21 (.int .u8 c)) fun ck => (aP (.bool cb) ck (.bool false)).wp K U K' Kp := by
 cases cb with
 | true =>
   obtain ⟨h0, h1⟩ := hi rfl
   obtain ⟨j, rfl⟩ : ∃ j : Nat, i = j := ⟨i.toNat, by omega⟩
   have aJ : j < ks.length := by omega
   have hx : ks[j]? = some ks[j] := by simp [aJ]
   simp only [aI, du]
   refine db (CG hv hx ?_)
   rw [aR]
   refine db ?_
   simp only [ay, if_true, ai]
   have : ks.getD (j : Int).toNat 0 = ks[j] := by rw [dC, rW, hx]; rfl
   rw [this] at hk
   simpa using hk
 | false =>
   simp only [aI, show (false == true) = false from rfl, aB, a8, ay, bm, if_false, ai]
   simpa using hk
theorem xT {b : Nat} {e : Nat} {p : Int -> Bool} {cb : Bool} (hv : dX v ks.length (eF ks)) (hl : ks.length <= 100000) (hp : ∀ k, Pure K f [.int .u8 k] (.bool (p k))) (hb : 0 < b) (hi : cb = true -> b <= ks.length) (hk : K' (.bool (cb && p (ks.getD (ks.length - b) 0))) U) :
 ad K (aq (.bool cb) true) (av.val v) fun v37 => ad K (aq (.bool cb) true) (av.val (.int .i64 ks.length)) fun fV => ad K (aq (.bool cb) true) (ak .sub (BT.mk false false false none false) true fV (AV.int .i64 (b : Nat))) fun iJ =>
  ad K (aq (.bool cb) true) (aF (some (e, 1)) none v37 iJ) fun v20 => ad K (aq (.bool cb) true) (ao (some (false, 1)) v20 U) fun v21 =>
  ad K (aq (.bool cb) true) (av.enter f [v21]) fun ck => (aP (.bool cb) ck (.bool false)).wp K U K' Kp := by
 cases cb with
 | true =>
   have hi := hi rfl
   have aJ : ks.length - b < ks.length := by omega
   have hx : ks[ks.length - b]? = some ks[ks.length - b] := by simp [aJ]
   simp only [aI, du]
   refine db (db ?_)
   rw [dH, dp]
   refine gT ⟨aX (by omega) (by omega), ?_⟩
   rw [au, show (ks.length : Int) - b = ((ks.length - b : Nat) : Int) by omega]
   refine CG hv hx (pR (hp _) ?_)
   simp only [ay, if_true, ai]
   have : ks.getD (ks.length - b) 0 = ks[ks.length - b] := by rw [rW, hx]; rfl
   rw [this] at hk
   simpa using hk
 | false =>
   simp only [aI, show (false == true) = false from rfl, aB, a8, ay, bm, if_false, ai]
   simpa using hk
theorem Bn {b : Nat} {e : Nat} {cc : Int} (hv : dX v ks.length (eF ks)) (hl : ks.length <= 100000) (hb : 0 < b) (hi : c -> b <= ks.length) (hk : K' (.bool (decide c && (ks.take (ks.length - b)).all fun k => decide (k = cc))) U) :
 ad K (aq (.bool (decide c)) true) (av.val v) fun v30 => ad K (aq (.bool (decide c)) true) (av.val (.int .i64 ks.length)) fun v31 => ad K (aq (.bool (decide c)) true) (ak .sub (BT.mk false false false none false) true v31 (AV.int .i64 (b : Nat))) fun fG =>
  ad K (aq (.bool (decide c)) true) (dU false (some (e, 1)) v30 none (some fG)) fun dF => ad K (aq (.bool (decide c)) true) (av.enter 140 [dF, (AV.int .u8 cc)]) fun gi => (aP (.bool (decide c)) gi (.bool false)).wp K U K' Kp := by
 by_cases hc : c
 · have hi := hi hc
   simp only [hc, bM, aI, du]
   refine db (db ?_)
   rw [dH, dp]
   refine gT ⟨aX (by omega) (by omega), ?_⟩
   rw [au, show (ks.length : Int) - b = ((ks.length - b : Nat) : Int) by omega]
   rcases hv with ⟨h0, _, _⟩ | ⟨cp, rfl⟩
   · omega
   · rw [rz, gA, fo]
     refine gT ⟨by omega, ?_⟩
     rw [au]
     have ju : dX (.vec (((ks.length - b : Nat) : Int).toNat - (0 : Int).toNat) (oN cp (some (.int .i64 ((ks.length - b : Nat) : Int)))) (((eF ks).take (((ks.length - b : Nat) : Int).toNat * 1)).drop ((0 : Int).toNat * 1))) (ks.take (ks.length - b)).length (eF (ks.take (ks.length - b))) := by
      refine .inr ⟨oN cp (some (.int .i64 ((ks.length - b : Nat) : Int))), ?_⟩
      rw [dC]
      simp [eF, List.map_take]
     refine pR (Gf ju (by simp; omega) cc) ?_
     simp only [ay, if_true, ai]
     simpa [hc] using hk
 · simp only [hc, bZ, aI, show (false == true) = false from rfl, aB, a8, ay, bm, if_false, ai]
   simpa [hc] using hk
end
theorem ny {c : pX} {p : Int -> Bool} (hp : c.is = p) {lo hi n : Nat} {ks : List Int} (h : n = ks.length) : dk ks [⟨c, lo, hi⟩] = (decide (lo <= n /\ n <= hi) && ks.all p) := by rw [Rs, hp, h]
theorem getD_take : ∀ (l : List Int) (i : Nat), i < l.length -> l.drop i = l.getD i 0 :: l.drop (i + 1) := fun l i h => by
 rw [gp h, rW, iY h]; rfl
theorem Nn {ks : List Int} (hl : ks.length <= 900) : dk ks [⟨.kind 5, 0, 900⟩, ⟨.base, 1, 1⟩, ⟨.term, 1, 1⟩] = (((decide (2 <= ks.length) && (ks.take (ks.length - 2)).all fun k => decide (k = 5)) && jP (ks.getD (ks.length - 2) 0)) && fw (ks.getD (ks.length - 1) 0)) := by
 have := wU ⟨.kind 5, 0, 900⟩ [.base, .term] ks (by simp; omega)
 simp only [dx, gJ, jy, oE, cq, Nat.reduceAdd] at this
 rw [this]
 by_cases h : 2 <= ks.length
 · rw [getD_take ks (ks.length - 2) (by omega), show ks.length - 2 + 1 = ks.length - 1 by omega, getD_take ks (ks.length - 1) (by omega), List.drop_of_length_le (show ks.length <= ks.length - 1 + 1 by omega)]
   have e1 := iq .base [.term] (ks.getD (ks.length - 2) 0) [ks.getD (ks.length - 1) 0] rfl
   have e2 := iq .term [] (ks.getD (ks.length - 1) 0) [] rfl
   simp only [dx, gJ] at e1 e2
   rw [e1, e2]
   simp only [dk, List.isEmpty_nil, Bool.and_true, Bool.and_assoc, pX.is]
   rfl
 · simp [h]
theorem Uh {ks : List Int} (hl : ks.length <= 900) : dk ks [⟨.kind 37, 1, 900⟩, ⟨.term, 1, 1⟩] = ((decide (2 <= ks.length) && (ks.take (ks.length - 1)).all fun k => decide (k = 37)) && fw (ks.getD (ks.length - 1) 0)) := by
 have := wU ⟨.kind 37, 1, 900⟩ [.term] ks (by simp; omega)
 simp only [dx, gJ, jy, oE, cq, Nat.reduceAdd] at this
 rw [this]
 by_cases h : 2 <= ks.length
 · rw [getD_take ks (ks.length - 1) (by omega), List.drop_of_length_le (show ks.length <= ks.length - 1 + 1 by omega)]
   have e2 := iq .term [] (ks.getD (ks.length - 1) 0) [] rfl
   simp only [dx, gJ] at e2
   rw [e2]
   simp only [dk, List.isEmpty_nil, Bool.and_true, Bool.and_assoc, pX.is]
   rfl
 · simp [h]
theorem Rt {ks : List Int} (hl : ks.length <= 900) : dk ks [⟨.term, 1, 1⟩, ⟨.kind 37, 1, 1⟩, ⟨.term, 1, 1⟩] = (((decide (ks.length = 3) && fw (ks.getD 0 0)) && decide (ks.getD 1 0 = 37)) && fw (ks.getD 2 0)) := by
 by_cases h : ks.length = 3
 · match ks, h with
   | [a, b, c], _ =>
     have e1 := iq .term [.kind 37, .term] a [b, c] rfl
     have e2 := iq (.kind 37) [.term] b [c] rfl
     have e3 := iq .term [] c [] rfl
     simp only [dx, gJ] at e1 e2 e3
     rw [e1, e2, e3]
     simp [dk, pX.is, Bool.and_assoc]
 · have := mR [.term, .kind 37, .term] ks
   simp only [dx, gJ, jy, oE, cq, Nat.reduceAdd] at this
   cases hf : dk ks [⟨.term, 1, 1⟩, ⟨.kind 37, 1, 1⟩, ⟨.term, 1, 1⟩] with
   | true => exact absurd (this hf) h
   | false => simp [h]
end Go.Rip
namespace Go.Rip
open Go.Proofs Go.RowKit
section
variable {U : St} {bt : BT} {l : Bool} {k : IntKind} {a b : Int} {K' : AV -> St -> Prop} {Kp : AV -> St -> Prop}
theorem er (h : K' (.bool (decide (a = b))) U) : (ak .eql bt l (.int k a) (.int k b)).wp K U K' Kp := by rw [aR]; exact h
theorem sY (h : K' (.bool (decide (b <= a))) U) : (ak .geq bt l (.int k a) (.int k b)).wp K U K' Kp := by rw [dG]; exact h
theorem sZ (h : K' (.bool (decide (b < a))) U) : (ak .gtr bt l (.int k a) (.int k b)).wp K U K' Kp := by rw [dY]; exact h
theorem cu {A B : Prop} (h : A) : al (.bool true) A B := by rw [bf]; exact h
theorem cO {A B : Prop} (h : B) : al (.bool false) A B := by rw [aU]; exact h
theorem dt {p : Prop} [Decidable p] {A B : Prop} (h : p -> A) (h' : ¬ p -> B) : al (.bool (decide p)) A B := by rw [aW]; exact ⟨h, h'⟩
end
theorem G2 {v : AV} {ks : List Int} (hv : dX v ks.length (eF ks)) (hl : ks.length <= 900) (k : Int) : Pure K 72 [.int .u8 k, v] (.bool (nQ k ks)) := by
 intro U R hR
 refine Oz ?_
 unfold QA
 have hlen : bw (some false) v = .val (.int .i64 ks.length) := hv.len
 have uD : ks.length <= 100000 := by omega
 rw [hlen, ai]
 refine er ?_
 have out : ∀ {b : Bool}, nQ k ks = b -> aj R (.bool b) U := fun h => by rw [h] at hR; exact aj.mk hR
 refine dt (fun h1 => ?_) fun h1 => ?_
 · refine (Ci hv uD).go (out ?_)
   rw [h1]
   show dk ks [⟨.item, 0, 900⟩] = _
   rw [ny (p := oy) rfl rfl, decide_eq_true (by omega), Bool.true_and]
 intro j hj
 have BW : k = 2 \/ k = 5 -> j v (.int .i64 ks.length) (.int .u8 k) (.bool true) U := fun hk => by
  refine hj _ _ _ _ _ ?_
  refine cu ?_
  refine er ?_
  refine xU hv EJ (fun h => by rw [cL] at h; omega) (out ?_)
  have hf : eC k = some ⟨true, false, false, [⟨.type, 1, 1⟩]⟩ := by rcases hk with rfl | rfl <;> rfl
  unfold nQ
  rw [hf]
  show dk ks [⟨.type, 1, 1⟩] = _
  rw [ny (p := pT) rfl rfl]
  by_cases hn : ks.length = 1
  · match ks, hn with
    | [a], _ => simp
  · rw [decide_eq_false (by omega), decide_eq_false (by omega), Bool.false_and, Bool.false_and]
 have Yn : k ≠ 2 -> k ≠ 5 -> j v (.int .i64 ks.length) (.int .u8 k) (.bool false) U := fun Fz hn5 => by
  refine hj _ _ _ _ _ ?_
  refine cO ?_
  intro j1 uC
  have BX : k = 3 \/ k = 4 -> j1 v (.int .i64 ks.length) (.int .u8 k) (.bool true) U := fun hk => by
   refine uC _ _ _ _ _ ?_
   refine cu ?_
   refine sY ?_
   refine Bn (b := 2) hv uD (by omega) (fun h => by omega) ?_
   refine xT (b := 2) hv uD oR (by omega) (fun h => by rw [bP, cL] at h; omega) ?_
   refine xT (b := 1) hv uD kS (by omega) (fun h => by simp only [bP, cL] at h; omega) (out ?_)
   have hf : eC k = some ⟨true, false, false, [⟨.kind 5, 0, 900⟩, ⟨.base, 1, 1⟩, ⟨.term, 1, 1⟩]⟩ := by rcases hk with rfl | rfl <;> rfl
   unfold nQ
   rw [hf]
   show dk ks [⟨.kind 5, 0, 900⟩, ⟨.base, 1, 1⟩, ⟨.term, 1, 1⟩] = _
   rw [Nn hl]
   have e2 : decide (((2 : Nat) : Int) <= (ks.length : Int)) = decide (2 <= ks.length) := by rw [decide_eq_decide]; omega
   simp only [<- e2]; rfl
  have Yo : k ≠ 3 -> k ≠ 4 -> j1 v (.int .i64 ks.length) (.int .u8 k) (.bool false) U := fun hn3 hn4 => by
   refine uC _ _ _ _ _ ?_
   refine cO ?_
   refine er (dt (fun h => ?_) fun hn8 => ?_)
   · refine sY ?_
     refine oz (Ch hv uD) (out ?_)
     rw [h]
     show dk ks [⟨.base, 2, 900⟩] = _
     rw [ny (p := jP) rfl rfl]
     congr 1; rw [decide_eq_decide]; omega
   refine er (dt (fun h => ?_) fun hn9 => ?_)
   · refine sY ?_
     refine oz (nO hv uD) (out ?_)
     rw [h]
     show dk ks [⟨.term, 2, 900⟩] = _
     rw [ny (p := fw) rfl rfl]
     congr 1; rw [decide_eq_decide]; omega
   refine er (dt (fun h => ?_) fun UY => ?_)
   · refine er ?_
     refine oz (nO hv uD) (out ?_)
     rw [h]
     show dk ks [⟨.term, 3, 3⟩] = _
     rw [ny (p := fw) rfl rfl]
     congr 1; rw [decide_eq_decide]; omega
   intro j2 oh
   have Yf : eC k = some ⟨iN k, false, false, [⟨.term, 2, 2⟩]⟩ -> j2 v (.int .i64 ks.length) (.int .u8 k) (.bool true) U := fun hf => by
    refine oh _ _ _ _ _ ?_
    refine cu ?_
    refine er ?_
    refine oz (nO hv uD) (out ?_)
    unfold nQ
    rw [hf]
    show dk ks [⟨.term, 2, 2⟩] = _
    rw [ny (p := fw) rfl rfl]
    congr 1; rw [decide_eq_decide]; omega
   have Yp : k ≠ 11 -> k ≠ 13 -> k ≠ 15 -> k ≠ 17 -> k ≠ 18 -> ¬ (20 <= k /\ k <= 24) -> j2 v (.int .i64 ks.length) (.int .u8 k) (.bool false) U := fun m11 m13 m15 m17 m18 m20 => by
    refine oh _ _ _ _ _ ?_
    refine cO ?_
    intro j3 Fu
    have oS : ∀ f : Ca, eC k = some f -> f.kids = [⟨.term, 1, 1⟩] -> j3 v (.int .i64 ks.length) (.int .u8 k) (.bool true) U := fun f hf PF => by
     refine Fu _ _ _ _ _ ?_
     refine cu ?_
     refine er ?_
     refine oz (nO hv uD) (out ?_)
     unfold nQ
     rw [hf]
     show dk ks f.kids = _
     rw [PF, ny (p := fw) rfl rfl]
     congr 1; rw [decide_eq_decide]; omega
    have Yq : k ≠ 12 -> k ≠ 14 -> k ≠ 16 -> k ≠ 19 -> k ≠ 25 -> j3 v (.int .i64 ks.length) (.int .u8 k) (.bool false) U := fun m12 m14 m16 m19 m25 => by
     refine Fu _ _ _ _ _ ?_
     refine cO ?_
     refine er (dt (fun h => ?_) fun m34 => ?_)
     · refine sY ?_
       refine oz (Eh hv uD) (out ?_)
       rw [h]
       show dk ks [⟨.arg, 1, 900⟩] = _
       rw [ny (p := jO) rfl rfl]
       congr 1; rw [decide_eq_decide]; omega
     refine er (dt (fun h => ?_) fun m35 => ?_)
     · refine sY ?_
       refine Bn (b := 1) hv uD (by omega) (fun h => by omega) ?_
       refine xT (b := 1) hv uD kS (by omega) (fun h => by simp only [bP, cL] at h; omega) (out ?_)
       rw [h]
       show dk ks [⟨.kind 37, 1, 900⟩, ⟨.term, 1, 1⟩] = _
       rw [Uh hl]
       have e2 : decide (((2 : Nat) : Int) <= (ks.length : Int)) = decide (2 <= ks.length) := by rw [decide_eq_decide]; omega
       simp only [<- e2]; rfl
     refine er (dt (fun h => ?_) fun m36 => ?_)
     · refine er ?_
       refine xU hv kS (fun h => by rw [cL] at h; omega) ?_
       refine Jg hv (fun h => by simp only [bP, cL] at h; omega) ?_
       refine xU hv kS (fun h => by simp only [bP, cL] at h; omega) (out ?_)
       rw [h]
       show dk ks [⟨.term, 1, 1⟩, ⟨.kind 37, 1, 1⟩, ⟨.term, 1, 1⟩] = _
       rw [Rt hl]
       have e2 : decide ((ks.length : Int) = 3) = decide (ks.length = 3) := by rw [decide_eq_decide]; omega
       simp only [e2]; rfl
     intro j4 Y4
     have Yg : eC k = some ⟨(iN k), oP k, false, []⟩ -> j4 (.int .i64 ks.length) (.bool true) U := fun hf => by
      refine Y4 _ _ _ ?_
      refine cu ?_
      refine er ?_
      refine out ?_
      unfold nQ
      rw [hf]
      show dk ks [] = _
      rw [dk, lE, List.isEmpty_iff, cL]
      constructor
      · rintro rfl; rfl
      · intro h; exact rX.1 (by omega)
     have last : eC k = none -> j4 (.int .i64 ks.length) (.bool false) U := fun hf => by
      refine Y4 _ _ _ ?_
      refine cO ?_
      refine out ?_
      unfold nQ
      rw [hf]
     have Jf : ∀ b, b = true -> eC k = some ⟨(iN k), oP k, false, []⟩ -> j4 (.int .i64 ks.length) (.bool b) U := fun b hb h => by subst hb; exact Yg h
     have Ye : ∀ b, b = false -> eC k = none -> j4 (.int .i64 ks.length) (.bool b) U := fun b hb h => by subst hb; exact last h
     iterate 10
      refine er (dt (fun h => Jf _ (by simpa using h) (by rw [h]; rfl)) fun _ => ?_)
     refine er ?_
     by_cases h : k = 37
     · exact Jf _ (by simpa using h) (by rw [h]; rfl)
     · exact Ye _ (by simpa using h) (mC (by omega))
    simp only [aR, ai, aW]
    refine ⟨fun h => ?_, fun m12 => ⟨fun h => ?_, fun m14 => ⟨fun h => ?_, fun m16 => ⟨fun h => ?_, fun m19 => ?_⟩⟩⟩⟩
    · simp only [h, bM]; rw [h] at oS; exact oS _ rfl rfl
    · simp only [h, bM]; rw [h] at oS; exact oS _ rfl rfl
    · simp only [h, bM]; rw [h] at oS; exact oS _ rfl rfl
    · simp only [h, bM]; rw [h] at oS; exact oS _ rfl rfl
    · by_cases h : k = 25
      · simp only [h, bM]; rw [h] at oS; exact oS _ rfl rfl
      · simp only [h, bZ]; exact Yq m12 m14 m16 m19 h
   have mG : ∀ b, b = true -> eC k = some ⟨iN k, false, false, [⟨.term, 2, 2⟩]⟩ -> j2 v (.int .i64 ks.length) (.int .u8 k) (.bool b) U := fun b hb h => by subst hb; exact Yf h
   refine er (dt (fun h => mG _ (by simpa using h) (by rw [h]; rfl)) fun m11 => ?_)
   refine er (dt (fun h => mG _ (by simpa using h) (by rw [h]; rfl)) fun m13 => ?_)
   refine er (dt (fun h => mG _ (by simpa using h) (by rw [h]; rfl)) fun m15 => ?_)
   refine er (dt (fun h => mG _ (by simpa using h) (by rw [h]; rfl)) fun m17 => ?_)
   refine er (dt (fun h => mG _ (by simpa using h) (by rw [h]; rfl)) fun m18 => ?_)
   refine er (dt (fun h => mG _ (by simpa using h) (by rw [h]; rfl)) fun m20 => ?_)
   refine er (dt (fun h => mG _ (by simpa using h) (by rw [h]; rfl)) fun m21 => ?_)
   refine er (dt (fun h => mG _ (by simpa using h) (by rw [h]; rfl)) fun m22 => ?_)
   refine er (dt (fun h => mG _ (by simpa using h) (by rw [h]; rfl)) fun m23 => ?_)
   refine er ?_
   by_cases h : k = 24
   · exact mG _ (by simpa using h) (by rw [h]; rfl)
   · simp only [h, bZ]; exact Yp m11 m13 m15 m17 m18 (by omega)
  refine er (dt (fun h => ?_) fun m3 => ?_)
  · simp only [h, bM]; rw [h] at BX; exact BX (.inl rfl)
  · refine er ?_
    by_cases h : k = 4
    · simp only [h, bM]; rw [h] at BX; exact BX (.inr rfl)
    · simp only [h, bZ]; exact Yo m3 h
 refine er (dt (fun h => ?_) fun m2 => ?_)
 · simp only [h, bM]; rw [h] at BW; exact BW (.inl rfl)
 · refine er ?_
   by_cases h : k = 5
   · simp only [h, bM]; rw [h] at BW; exact BW (.inr rfl)
   · simp only [h, bZ]; exact Yn m2 h
def kO (x : Nd) : Bool := (iN x.kind == decide (x.text ≠ [])) && (!decide (x.text ≠ []) || iB x.text) && (if oP x.kind then gN x.n else decide (x.n = 0)) && (if x.kind = 12 then gN x.m else decide (x.m = 0))
theorem BJ : ∀ n : Fin 38, (match eC ((n.val : Nat) : Int) with | some f => f.text == iN (n.val : Nat) && f.n == oP (n.val : Nat) && f.m == decide (((n.val : Nat) : Int) = 12) | none => true) = true := by decide +kernel
theorem CE {k : Int} {f : Ca} (h : eC k = some f) : f.text = iN k /\ f.n = oP k /\ f.m = decide (k = 12) := by
 have hk : 1 <= k /\ k <= 37 := by
  by_cases h1 : k < 1 \/ 37 < k
  · rw [mC h1] at h; cases h
  · omega
 obtain ⟨n, rfl⟩ : ∃ n : Nat, k = n := ⟨k.toNat, by omega⟩
 have := BJ ⟨n, by omega⟩
 simp only [h, bP, beq_iff_eq] at this
 exact ⟨this.1.1, this.1.2, this.2⟩
theorem AQ {x : Nd} {f : Ca} (h : eC x.kind = some f) : kO x = ly x f := by
 obtain ⟨h1, h2, h3⟩ := CE h
 have z : gN 0 = true := by simp [gN]
 unfold kO ly
 rw [<- h1, <- h2]
 have hm : (if x.kind = 12 then gN x.m else decide (x.m = 0)) = (if f.m = true then gN x.m else decide (x.m = 0)) := by
  rw [h3]; by_cases h : x.kind = 12 <;> simp [h]
 rw [hm]
 have e0 : (x.text != []) = decide (x.text ≠ []) := by
  by_cases h : x.text = [] <;> simp [h]
 rw [e0]
 by_cases ht : x.text = []
 · have : iB [] = false := by decide
   cases f.text <;> cases f.n <;> cases f.m <;> by_cases hn : x.n = 0 <;> by_cases ID : x.m = 0 <;> simp [ht, hn, ID, z, this]
 · cases f.text <;> cases f.n <;> cases f.m <;> by_cases hn : x.n = 0 <;> by_cases ID : x.m = 0 <;> simp [ht, hn, ID, z]
end Go.Rip
namespace Go.Rip
open Go.Proofs Go.RowKit
theorem ir {f : FuncId} {args : List AV} {x : AV} {kq : AV -> Prop} (h : Pure K f args x) (hk : kq x) : az K (av.enter f args) kq := ⟨x, h, hk⟩
theorem iD {b o k : Nat} {kq : AV -> Prop} (h : kq (.box b (o + k))) : az K (ah (some k) (.box b o)) kq := h
theorem Ul {b o k : Nat} {kq : AV -> Prop} (h : kq (.box b (o + k))) : ad K (.bool true) (ah (some k) (.box b o)) kq := h
theorem CH {U : St} {b o : Nat} {L l : List AV} {x : AV} {kq : AV -> Prop} (hb : U.box b = some L) (hd : L.drop o = x :: l) (h : kq x) : ad K (.bool true) (ao (some (false, 1)) (.box b o) U) kq := by rw [ld hb, hd]; exact h
theorem dr {U : St} {b o : Nat} {L l : List AV} {x : AV} {kq : AV -> Prop} (hb : U.box b = some L) (hd : L.drop o = x :: l) (h : kq x) : az K (ao (some (false, 1)) (.box b o) U) kq := by rw [ld hb, hd]; exact h
theorem et {U τ : St} {b o : Nat} {L l : List AV} {x : AV} {K' : AV -> St -> Prop} {Kp : AV -> St -> Prop} (hb : U.box b = some L) (hd : L.drop o = x :: l) (h : K' x τ) : (ao (some (false, 1)) (.box b o) U).wp K τ K' Kp := by rw [ld hb, hd]; exact h
theorem Ey (x : Nd) (hs : x.text.length <= 100000) : Pure K 71 [.agg (cM x)] (.bool (kO x)) := by
 refine Pure.of rfl rfl (fun U => rfl) fun R hR => ?_
 refine Oy ?_
 unfold Qz
 rw [dO rfl]
 intro b hb
 have m : ((br ⟨.e, 0⟩).new b (.box (aA (.agg (cM x))))).box b = some (cM x) := aN
 generalize (br _).new b _ = U at *
 clear hb
 have out : ∀ {b : Bool}, kO x = b -> aj R (.bool b) U := fun h => by rw [h] at hR; exact aj.mk (hR _)
 refine iD (dr m rfl (ir (Im _) ?_))
 refine iD (dr m rfl ?_)
 rw [jt, au, uR, au]
 have hw : (!decide (x.text = w_)) = decide (x.text ≠ []) := by
  by_cases h : x.text = [] <;> simp [h, w_]
 rw [hw]
 have rest : (iN x.kind != decide (x.text ≠ [])) = false -> (decide (x.text ≠ []) && !iB x.text) = false ->
  (ah (some 0) (.box b 0)).wp K U (fun v21 U =>
  (ao (some (false, 1)) v21 U).wp K U (fun ck U =>
  af K 136 [ck] U (ar (fun cR U =>
  ad K (aq cR true) (ah (some 2) (.box b 0)) (fun dV =>
  ad K (aq cR true) (ao (some (false, 1)) dV U) (fun eB =>
  ad K (aq cR true) (av.enter 137 [eB]) (fun dw =>
  ad K (aq cR true) (fi .not dw) (fun v28 =>
  (aP cR v28 (AV.bool false)).wp K U (fun ct U =>
  ad K (aq ct false) (ah (some 0) (.box b 0)) (fun v31 =>
  ad K (aq ct false) (ao (some (false, 1)) v31 U) (fun fG =>
  ad K (aq ct false) (av.enter 136 [fG]) (fun dF =>
  ad K (aq ct false) (fi .not dF) (fun gi =>
  ad K (aq ct false) (av.val gi) (fun eD =>
  ad K (aq eD true) (ah (some 2) (.box b 0)) (fun fq =>
  ad K (aq eD true) (ao (some (false, 1)) fq U) (fun v37 =>
  ad K (aq eD true) (ak .neq (BT.mk false false false none false) true v37 (AV.int .i64 0)) (fun fV =>
  ad K (aq ct false) (aP eD fV (AV.bool false)) (fun iJ =>
  (aP ct (AV.bool true) iJ).wp K U (fun v40 U =>
  al v40 (
   aj R (AV.bool false) U) (
   (ah (some 0) (.box b 0)).wp K U (fun jE U =>
   (ao (some (false, 1)) jE U).wp K U (fun jY U =>
   (ak .eql (BT.mk false false false none false) true jY (AV.int .u8 12)).wp K U (fun eI U =>
   ad K (aq eI true) (ah (some 3) (.box b 0)) (fun jU =>
   ad K (aq eI true) (ao (some (false, 1)) jU U) (fun v46 =>
   ad K (aq eI true) (av.enter 137 [v46]) (fun lK =>
   (aP eI lK (AV.bool false)).wp K U (fun iK U =>
   ad K (aq iK false) (ah (some 0) (.box b 0)) (fun mc =>
   ad K (aq iK false) (ao (some (false, 1)) mc U) (fun v51 =>
   ad K (aq iK false) (ak .neq (BT.mk false false false none false) true v51 (AV.int .u8 12)) (fun jZ =>
   ad K (aq iK false) (av.val jZ) (fun v53 =>
   ad K (aq v53 true) (ah (some 3) (.box b 0)) (fun lL =>
   ad K (aq v53 true) (ao (some (false, 1)) lL U) (fun iX =>
   ad K (aq v53 true) (ak .eql (BT.mk false false false none false) true iX (AV.int .i64 0)) (fun oc =>
   ad K (aq iK false) (aP v53 oc (AV.bool false)) (fun kK =>
   (aP iK (AV.bool true) kK).wp K U (fun mM U =>
   aj R mM U) (aa R)))))))))) (aa R))))) (aa R)) (aa R)) (aa R))) (aa R))))))))))) (aa R)))))) (aa R))) (aa R)) (aa R) := by
  intro h1 h2
  have qh : kO x = ((if oP x.kind then gN x.n else decide (x.n = 0)) && (if x.kind = 12 then gN x.m else decide (x.m = 0))) := by
   unfold kO
   cases ha : iN x.kind <;> cases hb : decide (x.text ≠ []) <;> cases hc : iB x.text <;> simp_all
  rw [qh] at out
  clear qh hR hw
  simp only [aV, ai, cq]
  refine et m rfl ((vb _).go ?_)
  have second : (if oP x.kind then gN x.n else decide (x.n = 0)) = true -> (ao (some (false, 1)) (.box b 0) U).wp K U (fun jY U =>
   (ak .eql (BT.mk false false false none false) true jY (AV.int .u8 12)).wp K U (fun eI U =>
   ad K (aq eI true) (.val (.box b 3)) (fun jU =>
   ad K (aq eI true) (ao (some (false, 1)) jU U) (fun v46 =>
   ad K (aq eI true) (av.enter 137 [v46]) (fun lK =>
   (aP eI lK (AV.bool false)).wp K U (fun iK U =>
   ad K (aq iK false) (.val (.box b 0)) (fun mc =>
   ad K (aq iK false) (ao (some (false, 1)) mc U) (fun v51 =>
   ad K (aq iK false) (ak .neq (BT.mk false false false none false) true v51 (AV.int .u8 12)) (fun jZ =>
   ad K (aq iK false) (av.val jZ) (fun v53 =>
   ad K (aq v53 true) (.val (.box b 3)) (fun lL =>
   ad K (aq v53 true) (ao (some (false, 1)) lL U) (fun iX =>
   ad K (aq v53 true) (ak .eql (BT.mk false false false none false) true iX (AV.int .i64 0)) (fun oc =>
   ad K (aq iK false) (aP v53 oc (AV.bool false)) (fun kK =>
   (aP iK (AV.bool true) kK).wp K U (fun mM U =>
   aj R mM U) (aa R)))))))))) (aa R))))) (aa R)) (aa R) := by
   intro h3
   rw [h3, Bool.true_and] at out
   refine et m rfl (er ?_)
   by_cases hk : x.kind = 12
   · simp only [hk, bM, aI, du]
     refine db (CH m rfl (pR (y7 _) ?_))
     simp only [ay, if_true, ai]
     rw [if_pos hk] at out
     cases hm : gN x.m with
     | true =>
       simp only [aI, show (true == false) = false from rfl, aB, a8, gj, ay, if_true, ai]
       exact out hm
     | false =>
       simp only [aI, du]
       refine db (CH m rfl ?_)
       simp only [cM, List.drop, bS, hk, bM, bU, aB, bl, au, aI, show (false == true) = false from rfl, a8, ay, bm, if_false, ai]
       exact out hm
   · rw [if_neg hk] at out
     simp only [hk, bZ, aI, show (false == true) = false from rfl, aB, a8, ay, bm, if_false, ai, du, bl, au]
     refine dr m rfl ?_
     simp only [bS, hk, bZ, cZ, au, aI, du, aB, bl]
     refine dr m rfl ?_
     simp only [aR, au, ay, if_true, bm, if_false, ai]
     exact out rfl
  cases hn : oP x.kind with
  | true =>
    rw [hn] at second out
    simp only [if_true] at second out
    simp only [aI, du]
    refine db (CH m rfl (pR (y7 _) ?_))
    simp only [cJ, aB, bl, au, ay, if_true, ai]
    cases hv : gN x.n with
    | false =>
      simp only [cZ, aI, show (true == false) = false from rfl, aB, a8, gj, ay, if_true, ai]
      refine cu (out ?_)
      rw [hv]; rfl
    | true =>
      simp only [bU, aI, du]
      simp only [aB, bl, au]
      refine dr m rfl (ir (vb _) ?_)
      rw [hn]
      simp only [cJ, bU, au, aI, show (false == true) = false from rfl, aB, a8, ay, bm, if_false, ai]
      exact cO (second hv)
  | false =>
    rw [hn] at second out
    simp only [bm, if_false] at second out
    simp only [aI, show (false == true) = false from rfl, aB, a8, ay, bm, if_false, ai, du, bl, au]
    refine dr m rfl (ir (vb _) ?_)
    rw [hn]
    simp only [cJ, cZ, au, aI, du, aB, bl]
    refine dr m rfl ?_
    simp only [bS, au, ay, if_true, bm, if_false, ai]
    by_cases h0 : x.n = 0
    · simp only [h0, bM, bU]
      exact cO (second (by simp [h0]))
    · simp only [h0, bZ, cZ]
      exact cu (out (by simp [h0]))
 have YY : (iN x.kind != decide (x.text ≠ [])) = true \/ (decide (x.text ≠ []) && !iB x.text) = true -> kO x = false := fun h => by
  unfold kO
  cases ha : iN x.kind <;> cases hb : decide (x.text ≠ []) <;> cases hc : iB x.text <;> simp_all
 cases h1 : (iN x.kind != decide (x.text ≠ [])) with
 | true =>
   simp only [aI, show (true == false) = false from rfl, aB, a8, gj, ay, if_true, au]
   exact cu (out (YY (.inl h1)))
 | false =>
   simp only [aI, du, aV, aB, bl, au, cq]
   refine dr m rfl ?_
   rw [jt, au, hw]
   cases h0 : decide (x.text ≠ []) with
   | false =>
     simp only [aI, show (false == true) = false from rfl, aB, a8, au, ay, bm, if_false]
     exact cO (rest h1 (by rw [h0]; rfl))
   | true =>
     simp only [aI, du, aB, bl, au]
     refine dr m rfl (ir (EI _ hs) ?_)
     simp only [cJ, au, ay, if_true, bm, if_false]
     cases hn : iB x.text with
     | true => exact cO (rest h1 (by rw [hn]; simp))
     | false => exact cu (out (YY (.inr (by rw [h0, hn]; rfl))))
end Go.Rip
namespace Go.Rip
open Go.Proofs Go.RowKit
def lU (x : Nd) (ks : List Int) : Bool := kO x && nQ x.kind ks
theorem Dy {k : Int} {t : bg} {n m a : Int} {ks : List Tre} {x : Nd} (h1 : x.kind = k) (h2 : x.text = t) (h3 : x.n = n) (h4 : x.m = m) : (Tre.mk k t n m a ks).ok = (lU x (ks.map Tre.kind) && Tre.xq ks) := by
 rw [Tre.ok]
 congr 1
 unfold lU nQ
 rw [h1]
 cases hf : eC k with
 | none => simp
 | some f =>
   rw [AQ (f := f) (by rw [h1]; exact hf)]
   congr 1
   unfold ly
   simp only [h2, h3, h4]
theorem uf {l : List Nd} : ∀ {ts : List Tre} {p q fO : Nat}, jr l p ts -> (bJ p ts)[q]? = some fO -> ∃ u, ts[q]? = some u /\ eS l fO u
 | [], p, q, fO, h, hk => by simp [bJ] at hk
 | t :: ts, p, 0, fO, h, hk => by simp [bJ] at hk; subst hk; exact ⟨t, rfl, h.head⟩
 | t :: ts, p, q + 1, fO, h, hk => by
   simp only [bJ, List.getElem?_cons_succ] at hk
   obtain ⟨u, h1, h2⟩ := uf h.tail hk
   exact ⟨u, by simpa using h1, h2⟩
theorem zh {l : List Nd} : ∀ (N : Nat) (ts : List Tre) (p : Nat), (Tre.bC ts).length <= N -> jr l p ts -> (∀ j s x, p <= j -> j < p + (Tre.bC ts).length -> eS l j s -> l[j]? = some x -> lU x (s.kids.map Tre.kind) = true) -> Tre.xq ts = true
 | _, [], _, _, _, _ => by simp
 | 0, t :: ts, _, hN, _, _ => by have := t.dh; simp only [Tre.cY, fU] at hN; omega
 | N + 1, .mk k tx n m a ks :: ts, p, hN, h, bq => by
   have CP : (Tre.mk k tx n m a ks).flat.length = (Tre.bC ks).length + 1 := j9 (.mk k tx n m a ks)
   simp only [Tre.cY, fU] at hN bq
   rw [Tre.tL]
   obtain ⟨x, hx, h1, h2, h3, h4, h5, h6⟩ := h.head.kB
   rw [Dy (k := k) (t := tx) (n := n) (m := m) (x := x) h1 h3 h4 h5]
   have e1 : lU x (ks.map Tre.kind) = true := bq p _ x (de _) (by omega) h.head hx
   have e2 := zh N ks (p + 1) (by omega) h.head.kids fun j s y uC oh => bq j s y (by omega) (by omega)
   have e3 := zh N ts (p + (Tre.flat (.mk k tx n m a ks)).length) (by omega) h.tail fun j s y uC oh => bq j s y (by omega) (by omega)
   rw [e1, e2, e3]; rfl
theorem D0 {t : Tre} (h : t.ok = true) {i : Nat} {s : Tre} (hs : eS t.flat i s) : s.ok = true := by
 have hi : i < t.flat.length := by have := hs.le; have := s.dh; omega
 obtain ⟨s', h1, h2⟩ := wF (l := t.flat) t.flat.length [t] 0 (by simp) ⟨[], by simp⟩ i (by omega) (by simpa using hi)
 rw [hs.inj h1]
 exact h2 (by simp [h])
theorem xX {s : Tre} (h : s.ok = true) {l : List Nd} {i : Nat} {x : Nd} (hs : eS l i s) (hx : l[i]? = some x) : lU x (s.kids.map Tre.kind) = true := by
 obtain ⟨y, hy, h1, h2, h3, h4, h5, h6⟩ := hs.kB
 rw [hx] at hy; cases hy
 cases s with
 | mk k tx n m a ks =>
   rw [Dy (k := k) (t := tx) (n := n) (m := m) (x := x) h1 h3 h4 h5, bP] at h
   exact h.1
theorem Fm : ∀ (ss : List l8) (ks : List Int), dk ks ss = true -> ∀ k ∈ ks, ∃ s ∈ ss, s.c.is k = true
 | [], ks, h, k, hk => by rw [dk, List.isEmpty_iff] at h; subst h; simp at hk
 | s :: ss, ks, h, k, hk => by
   rw [dk] at h
   split at h
   · cases h
   · generalize hq : ((ks.take (min (ks.length - (ss.map (·.least)).sum) s.mq)).takeWhile s.c.is) = q at *
     have rP : q <+: ks := by
      rw [<- hq]
      exact (qB _).trans (List.take_prefix _ _)
     have gM : ks = q ++ ks.drop q.length := by
      obtain ⟨r, hr⟩ := rP
      rw [<- hr]; simp
     rw [gM, fH] at hk
     rcases hk with hk | hk
     · refine ⟨s, by simp, ?_⟩
       have : ∀ l : List Int, k ∈ l.takeWhile s.c.is -> s.c.is k = true := fun l => by
        induction l with
        | nil => simp
        | cons a l ih =>
          rw [nh]
          split
          · rename_i ha
            intro h
            rcases eA.1 h with rfl | h
            · exact ha
            · exact ih h
          · simp
       rw [<- hq] at hk
       exact this _ hk
     · obtain ⟨s', h1, h2⟩ := Fm ss _ h k hk
       exact ⟨s', by simp [h1], h2⟩
theorem RM : ∀ n : Fin 38, (match eC ((n.val : Nat) : Int) with | some f => f.kids.all fun s => !s.c.is 1 | none => true) = true := by decide +kernel
theorem VB {k : Int} {ks : List Int} (h : nQ k ks = true) : (1 : Int) ∉ ks := by
 intro hm
 unfold nQ at h
 split at h
 · rename_i f hf
   obtain ⟨s, h1, h2⟩ := Fm _ _ h 1 hm
   have hk : 1 <= k /\ k <= 37 := by
    by_cases h1 : k < 1 \/ 37 < k
    · rw [mC h1] at hf; cases hf
    · omega
   obtain ⟨n, rfl⟩ : ∃ n : Nat, k = n := ⟨k.toNat, by omega⟩
   have := RM ⟨n, by omega⟩
   simp only [hf, dP] at this
   have := this s h1
   rw [h2] at this; cases this
 · cases h
theorem Sg {t : Tre} (h : t.ok = true) {i : Nat} {s : Tre} (hs : eS t.flat i s) (hi : 0 < i) : s.kind ≠ 1 := by
 have aJ : i < t.flat.length := by have := hs.le; have := s.dh; omega
 rcases (place t aJ).2 with h0 | ⟨i', s', h1, h2, h3⟩
 · omega
 · obtain ⟨q, hq, C2⟩ := List.getElem_of_mem h3
   obtain ⟨u, Vd, IJ⟩ := uf h2.kids (show (bJ (i' + 1) s'.kids)[q]? = some i by rw [<- C2]; simp)
   have := hs.inj IJ
   subst this
   have dL := D0 h h2
   obtain ⟨x, hx, hk, _⟩ := h2.kB
   have hn := xX dL h2 hx
   unfold lU at hn
   rw [bP] at hn
   intro e
   refine VB hn.2 ?_
   rw [<- e]
   exact List.mem_map_of_mem (fB Vd)
theorem HV {l : List Nd} (h9 : ¬ 900 < l.length) (h : ¬ td l) : gu l = 4 := by
 unfold gu
 rw [if_neg h9, MD (fun h' => h ((ry l).2 h'))]
end Go.Rip
namespace Go.Rip
open Go.Proofs Go.RowKit
theorem sX {U : St} {bt : BT} {l : Bool} {k : IntKind} {a b : Int} {A B : AV -> St -> Prop} {Kp : AV -> St -> Prop} (h : a < b -> A (.bool true) U) (h' : ¬ a < b -> B (.bool false) U) : (ak .lss bt l (.int k a) (.int k b)).wp K U (fun v U => al v (A v U) (B v U)) Kp := by
 rw [bj, ai]
 by_cases hc : a < b
 · simp only [hc, bM]; exact cu (h hc)
 · simp only [hc, bZ]; exact cO (h' hc)
theorem Rv {U : St} {v : AV} {l : List Nd} {i : Nat} {x : Nd} {cb : Bool} {c : Int} {bt : BT} {lb : Bool} {K' : AV -> St -> Prop} {Kp : AV -> St -> Prop} (h : hU U v l) (hx : l[i]? = some x) (hk : K' (.bool (cb && decide (x.kind = c))) U) :
 ad K (aq (.bool cb) true) (av.val v) fun a => ad K (aq (.bool cb) true) (av.val (.int .i64 (i : Nat))) fun b => ad K (aq (.bool cb) true) (aF (some (43, 6)) none a b) fun p => ad K (aq (.bool cb) true) (ah (some 0) p) fun q =>
  ad K (aq (.bool cb) true) (ao (some (false, 1)) q U) fun y => ad K (aq (.bool cb) true) (ak .eql bt lb y (.int .u8 c)) fun z => (aP (.bool cb) z (.bool false)).wp K U K' Kp := by
 cases cb with
 | true =>
   simp only [aI, du]
   refine db (db (Nr h hx (Hg x) ?_))
   rw [aR]
   refine db ?_
   simp only [ay, if_true, ai]
   simpa using hk
 | false =>
   simp only [aI, show (false == true) = false from rfl, aB, a8, ay, bm, if_false, ai]
   simpa using hk
theorem Rp {U : St} {R : cB -> St -> Prop} {v : AV} {l : List Nd} (hv : hU U v l) (hl : l.length <= 50000) (fN : ∀ x ∈ l, x.text.length <= 100000)
 (h : ∀ ae, cH U ae -> R (.ret (.int .i64 (gu l))) ae) : af K 31 [.agg [v]] U R := by
 refine Oe ?_
 unfold Qg
 rw [dO rfl]
 intro b1 dK
 have m1 : (U.new b1 (.box (aA (.agg [v])))).box b1 = some [v] := aN
 have e1 := bH dK (x := .box (aA (.agg [v])))
 generalize U.new b1 (.box (aA (.agg [v]))) = bT at *
 clear dK
 simp only [aV, ai, cq]
 refine et m1 rfl ?_
 have IL := hv.o0 e1
 rw [IL.len, ai]
 refine sZ (dt (fun h9 => ?_) fun h9 => ?_)
 · have : gu l = 5 := by unfold gu; rw [if_pos (by omega)]
   rw [this] at h
   exact aj.mk (h _ e1)
 have h9 : ¬ 900 < l.length := by omega
 refine R8 IL (by omega) (fun hS => ?_) fun hS => ?_
 rotate_left
 · simp only [bu, cJ, ai, cZ, aI, show (true == false) = false from rfl, aB, a8, ay, if_true]
   refine cu ?_
   rw [HV h9 hS] at h
   exact aj.mk (h _ e1)
 obtain ⟨t, ht⟩ := (ry l).1 hS
 subst ht
 rw [AN t h9] at h
 clear hS
 have yV := eS.whole t
 obtain ⟨x0, hx0, UN, _⟩ := yV.kB
 have mY := t.dh
 simp only [bu, cJ, ai, bU, aI, du, aB, bl, au]
 refine N3 (i := 0) IL hx0 (Hg x0) ?_
 rw [bS, au]
 simp only [ay, bm, if_false, ai, UN]
 by_cases nB : t.kind = 1
 rotate_left
 · simp only [nB, bZ, cZ]
   refine cu ?_
   have : p6 t = 4 := by unfold p6; rw [if_pos (.inl nB)]
   rw [this] at h
   exact aj.mk (h _ e1)
 simp only [nB, bM, bU]
 refine cO ?_
 have bad : t.ok = false -> ∀ ae, cH U ae -> aj R (.int .i64 4) ae := fun ho ae e => by
  have : p6 t = 4 := by unfold p6; rw [if_pos (.inr ho)]
  rw [this] at h
  exact aj.mk (h _ e)
 refine ⟨fun m v3 v4 ae => ∃ i : Nat, m = t.flat.length - i /\ v3 = v /\ v4 = .int .i64 (i : Nat) /\ i <= t.flat.length /\ cH U ae /\ ∀ j s x, j < i -> eS t.flat j s -> t.flat[j]? = some x -> lU x (s.kids.map Tre.kind) = true, ⟨_, 0, rfl, rfl, rfl, by omega, e1, fun j s x h => by omega⟩, ?_⟩
 rintro m v3 v4 bR ⟨i, rfl, rfl, rfl, hi, e2, hN⟩
 have A9 := hv.o0 e2
 rw [A9.len, ai]
 refine sX (fun aJ => ?_) fun gn => ?_
 · have aJ : i < t.flat.length := by omega
   obtain ⟨⟨s, _, hs, _⟩, _⟩ := place t aJ
   refine za A9 hs (by omega) fun c8 dF g3 => ?_
   have sC : (bJ (i + 1) s.kids).length = s.kids.length := jd _ _
   have nD : dX dF (bJ (i + 1) s.kids).length (dB (bJ (i + 1) s.kids)) := by rw [sC]; exact g3.sl
   have hle := hs.le
   have CP := j9 s
   have hkk := Tre.o1 s.kids
   simp only [bu]
   have e3 := e2.trans g3.ex
   refine ⟨fun m w3 w4 v5 v6 v7 ae => ∃ q : Nat, m = s.kids.length - q /\ w3 = v3 /\ w4 = .int .i64 (i : Nat) /\ v6 = dF /\ v7 = .int .i64 (q : Nat) /\ q <= s.kids.length /\ fm U ae v5 5 1 q (eF ((s.kids.take q).map Tre.kind)),
    ⟨_, 0, rfl, rfl, rfl, rfl, rfl, by omega, by simpa [eF] using fm.nil e3⟩, ?_⟩
   clear e3
   rintro m w3 w4 v5 v6 v7 dq ⟨q, rfl, rfl, rfl, rfl, rfl, hq, g⟩
   have X3 : bw (some false) v6 = .val (.int .i64 (bJ (i + 1) s.kids).length) := nD.len
   have C8 := hv.o0 g.ex
   rw [X3, ai, sC]
   refine sX (fun U6 => ?_) fun U6 => ?_
   · have U6 : q < s.kids.length := by omega
     obtain ⟨fO, xP⟩ : ∃ fO, (bJ (i + 1) s.kids)[q]? = some fO := ⟨(bJ (i + 1) s.kids)[q]'(by omega), by simp⟩
     obtain ⟨u, Vd, IJ⟩ := uf hs.kids xP
     obtain ⟨y, hy, Vj, _⟩ := IJ.kB
     refine WJ nD xP ?_
     refine si C8 hy (Hg y) ?_
     refine HH rfl rfl ?_
     refine zI g (m := 1) (l2 := [.int .u8 y.kind]) rfl rfl (by omega) (by omega) fun eh v' g5 _ => ?_
     rw [cn]
     refine ⟨aX (by omega) (by omega), s.kids.length - (q + 1), by omega, q + 1, rfl, rfl, rfl, rfl, by simp, U6, ?_⟩
     have : (s.kids.take (q + 1)).map Tre.kind = (s.kids.take q).map Tre.kind ++ [y.kind] := by
      rw [pk, Vd, List.map_append, Vj]; rfl
     rw [this]
     simpa [eF] using g5
   · have hq : q = s.kids.length := by omega
     subst hq
     rw [pj] at g
     obtain ⟨x, hx, hxk, _⟩ := hs.kB
     have aau : dX v5 (s.kids.map Tre.kind).length (eF (s.kids.map Tre.kind)) := by rw [List.length_map]; exact g.sl
     have hxt := fN x (fB hx)
     refine sZ ?_
     refine Rv C8 hx ?_
     cases rO : (decide ((0 : Int) < ((i : Nat) : Int)) && decide (x.kind = 1)) with
     | true =>
       simp only [aI, show (true == false) = false from rfl, aB, a8, ay, if_true, ai]
       refine cu (bad ?_ _ g.ex)
       cases Vb : t.ok with
       | false => rfl
       | true => simp only [bP, cL] at rO; exact absurd (hxk ▸ rO.2) (Sg Vb hs (by omega))
     | false =>
       simp only [aI, du, aB, bl, au]
       refine C8.nd hx (ir (Ey x hxt) ?_)
       simp only [cJ, au, ay, bm, if_false, ai]
       have Vx : lU x (s.kids.map Tre.kind) = false -> aj R (AV.int .i64 4) dq := fun IG => by
        refine bad ?_ _ g.ex
        cases Vb : t.ok with
        | false => rfl
        | true =>
          have := xX (D0 Vb hs) hs hx
          rw [IG] at this; cases this
       cases hf : kO x with
       | false =>
         simp only [cZ, aI, show (true == false) = false from rfl, aB, a8, ay, if_true, ai]
         refine cu (Vx ?_)
         unfold lU; rw [hf]; rfl
       | true =>
         simp only [bU, aI, du, aB, bl, au]
         refine N3 C8 hx (Hg x) ?_
         refine ir (G2 aau (by simp; omega) x.kind) ?_
         simp only [cJ, au, ay, bm, if_false, ai]
         cases PF : nQ x.kind (s.kids.map Tre.kind) with
         | false => exact cu (Vx (by unfold lU; rw [hf, PF]; rfl))
         | true =>
           refine cO ?_
           rw [cn]
           refine ⟨aX (by omega) (by omega), t.flat.length - (i + 1), by omega, i + 1, rfl, rfl, by simp, by omega, g.ex, fun j s' x' hj dL gZ => ?_⟩
           rcases eG j i with h | h
           · exact hN j s' x' h dL gZ
           · have : j = i := by omega
             subst this
             rw [hx] at gZ; cases gZ
             rw [dL.inj hs]
             unfold lU; rw [hf, PF]; rfl
 · have hi : i = t.flat.length := by omega
   subst hi
   have cA : t.ok = true := by
    have := zh (l := t.flat) _ [t] 0 (de _) ⟨[], by simp⟩ (fun j s x _ hj hs hx => hN j s x (by simpa using hj) hs hx)
    simpa using this
   have Aa : p6 t = if 60 < t.deep \/ 24 < t.kids.length then 5 else 0 := by unfold p6; rw [if_neg (by simp [nB, cA])]
   rw [Aa] at h
   clear Aa bad hN
   refine M9 A9 (by omega) fun b8 c8 f8 m8 e3 => ?_
   have hDl := rL 0 t
   have Ud := e2.trans e3
   simp only [bu]
   refine ⟨fun m w3 v8 v9 ae => ∃ j : Nat, m = t.flat.length - j /\ w3 = v3 /\ v8 = .ms b8 0 t.flat.length 1 3 /\ v9 = .int .i64 (j : Nat) /\ j <= t.flat.length /\ ae = c8 /\ ∀ j' d, j' < j -> (lu 0 t)[j']? = some d -> ¬ 60 < d, ⟨_, 0, rfl, rfl, rfl, rfl, by omega, rfl, fun j' d h => by omega⟩, ?_⟩
   rintro m w3 v8 v9 dq ⟨j, rfl, rfl, rfl, rfl, hj, rfl, hD⟩
   have C8 := hv.o0 Ud
   rw [C8.len, ai]
   refine sX (fun aJ => ?_) fun gn => ?_
   · have aJ : j < t.flat.length := by omega
     obtain ⟨d, hd⟩ : ∃ d, (lu 0 t)[j]? = some d := ⟨(lu 0 t)[j]'(by omega), by simp⟩
     rw [zJ]
     refine ⟨⟨by omega, by omega, rfl⟩, ?_⟩
     obtain ⟨r, hr⟩ := qp hd
     rw [fh m8, dC, Nat.mul_one, cq, hr, bB]
     refine sZ (dt (fun h6 => ?_) fun h6 => ?_)
     · have : 60 < t.deep := (Cx t).1 ⟨d, fB hd, by omega⟩
       rw [if_pos (.inl this)] at h
       exact aj.mk (h _ Ud)
     · rw [cn]
       refine ⟨aX (by omega) (by omega), t.flat.length - (j + 1), by omega, j + 1, rfl, rfl, rfl, by simp, aJ, rfl, fun j' d' CQ pv => ?_⟩
       rcases eG j' j with h | h
       · exact hD j' d' h pv
       · have : j' = j := by omega
         subst this; rw [hd] at pv; cases pv; omega
   · have hj : j = t.flat.length := by omega
     subst hj
     have hnd : ¬ 60 < t.deep := fun h6 => by
      obtain ⟨d, h1, h2⟩ := (Cx t).2 h6
      obtain ⟨q, hq, C2⟩ := List.getElem_of_mem h1
      exact hD q d (by omega) (by rw [<- C2]; simp) h2
     refine za (i := 0) C8 yV (by omega) fun eh v93 g5 => ?_
     have hlen : bw (some false) v93 = .val (.int .i64 t.kids.length) := g5.sl.len
     simp only [bu, hlen, ai]
     have e5 := Ud.trans g5.ex
     refine sZ (dt (fun h6 => ?_) fun h6 => ?_)
     · rw [if_pos (.inr (by omega))] at h
       exact aj.mk (h _ e5)
     · rw [if_neg (by omega)] at h
       exact aj.mk (h _ e5)
end Go.Rip
