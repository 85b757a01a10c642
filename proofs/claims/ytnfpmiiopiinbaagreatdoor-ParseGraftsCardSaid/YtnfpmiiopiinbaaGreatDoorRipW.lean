/- Lemmas for the proof: no conditions. -/
import Derived.Test.YtnfpmiiopiinbaaGreatDoorRipZz
import Derived.Test.YtnfpmiiopiinbaaGreatDoorRipV
import Derived.Test.YtnfpmiiopiinbaaGreatDoorRipF
set_option linter.unusedVariables false
set_option linter.unusedSimpArgs false
set_option linter.loopingSimpArgs false
namespace Go.Rip
open Go.Proofs Go.RowKit
def oo (k : Int) (ks : List Int) : Bool := match eG k with | some f => dy ks f.kids | none => false
theorem mV {k : Int} (h : k < 1 \/ 37 < k) : eG k = none := by
 unfold eG
 repeat rw [if_neg (by omega)]
section
variable {U : St} {R : cD -> St -> Prop} {v : AV} {ks : List Int} {c : Prop} [Decidable c] {q : Bool} {f : FuncId} {Kp : AV -> St -> Prop} {K' : AV -> St -> Prop} {Kp : AV -> St -> Prop}
theorem o1 (hp : Pure K f [v] (.bool q)) (hk : K' (.bool (decide c && q)) U) :
 ad K (ar (.bool (decide c)) true) (au.val v) fun EU => ad K (ar (.bool (decide c)) true) (au.enter f [EU]) fun v91 => (aQ (.bool (decide c)) v91 (.bool false)).wp K U K' Kp := by
 by_cases hc : c
 · simp only [hc, bT, aI, dG]
   refine dq (qx hp ?_)
   simp only [aA, if_true, ah]
   simpa [hc] using hk
 · simp only [hc, ct, aI, show (false == true) = false from rfl, aC, a7, aA, bo, if_false, ah]
   simpa [hc] using hk
theorem yB {i : Int} {e : Nat} {p : Int -> Bool} {cb : Bool} (hv : eh v ks.length (eL ks)) (hp : ∀ k, Pure K f [.int .u8 k] (.bool (p k))) (hi : cb = true -> 0 <= i /\ i < ks.length) (hk : K' (.bool (cb && p (ks.getD i.toNat 0))) U) :
 ad K (ar (.bool cb) true) (au.val v) fun cH => ad K (ar (.bool cb) true) (aF (some (e, 1)) none cH (AV.int .i64 i)) fun v20 => ad K (ar (.bool cb) true) (ao (some (false, 1)) v20 U) fun v21 =>
  ad K (ar (.bool cb) true) (au.enter f [v21]) fun cm => (aQ (.bool cb) cm (.bool false)).wp K U K' Kp := by
 cases cb with
 | true =>
   obtain ⟨h0, h1⟩ := hi rfl
   obtain ⟨j, rfl⟩ : ∃ j : Nat, i = j := ⟨i.toNat, by omega⟩
   have aJ : j < ks.length := by omega
   have hx : ks[j]? = some ks[j] := by simp [aJ]
   simp only [aI, dG]
   refine dq (De hv hx (qx (hp _) ?_))
   simp only [aA, if_true, ah]
   have : ks.getD (j : Int).toNat 0 = ks[j] := by rw [dR, sJ, hx]; rfl
   rw [this] at hk
   simpa using hk
 | false =>
   simp only [aI, show (false == true) = false from rfl, aC, a7, aA, bo, if_false, ah]
   simpa using hk
theorem JY {i c : Int} {e : Nat} {cb : Bool} {bt : BT} {lb : Bool} (hv : eh v ks.length (eL ks)) (hi : cb = true -> 0 <= i /\ i < ks.length) (hk : K' (.bool (cb && decide (ks.getD i.toNat 0 = c))) U) :
 ad K (ar (.bool cb) true) (au.val v) fun cH => ad K (ar (.bool cb) true) (aF (some (e, 1)) none cH (AV.int .i64 i)) fun v20 => ad K (ar (.bool cb) true) (ao (some (false, 1)) v20 U) fun v21 =>
  ad K (ar (.bool cb) true) (aj .eql bt lb v21 (.int .u8 c)) fun cm => (aQ (.bool cb) cm (.bool false)).wp K U K' Kp := by
 cases cb with
 | true =>
   obtain ⟨h0, h1⟩ := hi rfl
   obtain ⟨j, rfl⟩ : ∃ j : Nat, i = j := ⟨i.toNat, by omega⟩
   have aJ : j < ks.length := by omega
   have hx : ks[j]? = some ks[j] := by simp [aJ]
   simp only [aI, dG]
   refine dq (De hv hx ?_)
   rw [aX]
   refine dq ?_
   simp only [aA, if_true, ah]
   have : ks.getD (j : Int).toNat 0 = ks[j] := by rw [dR, sJ, hx]; rfl
   rw [this] at hk
   simpa using hk
 | false =>
   simp only [aI, show (false == true) = false from rfl, aC, a7, aA, bo, if_false, ah]
   simpa using hk
theorem yA {b : Nat} {e : Nat} {p : Int -> Bool} {cb : Bool} (hv : eh v ks.length (eL ks)) (hl : ks.length <= 100000) (hp : ∀ k, Pure K f [.int .u8 k] (.bool (p k))) (hb : 0 < b) (hi : cb = true -> b <= ks.length) (hk : K' (.bool (cb && p (ks.getD (ks.length - b) 0))) U) :
 ad K (ar (.bool cb) true) (au.val v) fun v37 => ad K (ar (.bool cb) true) (au.val (.int .i64 ks.length)) fun eY => ad K (ar (.bool cb) true) (aj .sub (BT.mk false false false none false) true eY (AV.int .i64 (b : Nat))) fun je =>
  ad K (ar (.bool cb) true) (aF (some (e, 1)) none v37 je) fun v20 => ad K (ar (.bool cb) true) (ao (some (false, 1)) v20 U) fun v21 =>
  ad K (ar (.bool cb) true) (au.enter f [v21]) fun cm => (aQ (.bool cb) cm (.bool false)).wp K U K' Kp := by
 cases cb with
 | true =>
   have hi := hi rfl
   have aJ : ks.length - b < ks.length := by omega
   have hx : ks[ks.length - b]? = some ks[ks.length - b] := by simp [aJ]
   simp only [aI, dG]
   refine dq (dq ?_)
   rw [dU, dC]
   refine ij ⟨aS (by omega) (by omega), ?_⟩
   rw [av, show (ks.length : Int) - b = ((ks.length - b : Nat) : Int) by omega]
   refine De hv hx (qx (hp _) ?_)
   simp only [aA, if_true, ah]
   have : ks.getD (ks.length - b) 0 = ks[ks.length - b] := by rw [sJ, hx]; rfl
   rw [this] at hk
   simpa using hk
 | false =>
   simp only [aI, show (false == true) = false from rfl, aC, a7, aA, bo, if_false, ah]
   simpa using hk
theorem BY {b : Nat} {e : Nat} {cc : Int} (hv : eh v ks.length (eL ks)) (hl : ks.length <= 100000) (hb : 0 < b) (hi : c -> b <= ks.length) (hk : K' (.bool (decide c && (ks.take (ks.length - b)).all fun k => decide (k = cc))) U) :
 ad K (ar (.bool (decide c)) true) (au.val v) fun v30 => ad K (ar (.bool (decide c)) true) (au.val (.int .i64 ks.length)) fun v31 => ad K (ar (.bool (decide c)) true) (aj .sub (BT.mk false false false none false) true v31 (AV.int .i64 (b : Nat))) fun fG =>
  ad K (ar (.bool (decide c)) true) (dx false (some (e, 1)) v30 none (some fG)) fun dP => ad K (ar (.bool (decide c)) true) (au.enter 140 [dP, (AV.int .u8 cc)]) fun eI => (aQ (.bool (decide c)) eI (.bool false)).wp K U K' Kp := by
 by_cases hc : c
 · have hi := hi hc
   simp only [hc, bT, aI, dG]
   refine dq (dq ?_)
   rw [dU, dC]
   refine ij ⟨aS (by omega) (by omega), ?_⟩
   rw [av, show (ks.length : Int) - b = ((ks.length - b : Nat) : Int) by omega]
   rcases hv with ⟨h0, _, _⟩ | ⟨cp, rfl⟩
   · omega
   · rw [sf, eV, fD]
     refine ij ⟨by omega, ?_⟩
     rw [av]
     have nB : eh (.vec (((ks.length - b : Nat) : Int).toNat - (0 : Int).toNat) (pn cp (some (.int .i64 ((ks.length - b : Nat) : Int)))) (((eL ks).take (((ks.length - b : Nat) : Int).toNat * 1)).drop ((0 : Int).toNat * 1))) (ks.take (ks.length - b)).length (eL (ks.take (ks.length - b))) := by
      refine .inr ⟨pn cp (some (.int .i64 ((ks.length - b : Nat) : Int))), ?_⟩
      rw [dR]
      simp [eL, List.map_take]
     refine qx (G2 nB (by simp; omega) cc) ?_
     simp only [aA, if_true, ah]
     simpa [hc] using hk
 · simp only [hc, ct, aI, show (false == true) = false from rfl, aC, a7, aA, bo, if_false, ah]
   simpa [hc] using hk
end
theorem nT {c : qD} {p : Int -> Bool} (hp : c.is = p) {lo hi n : Nat} {ks : List Int} (h : n = ks.length) : dy ks [⟨c, lo, hi⟩] = (decide (lo <= n /\ n <= hi) && ks.all p) := by rw [RW, hp, h]
theorem getD_take : ∀ (l : List Int) (i : Nat), i < l.length -> l.drop i = l.getD i 0 :: l.drop (i + 1) := fun l i h => by
 rw [gy h, sJ, js h]; rfl
theorem Og {ks : List Int} (hl : ks.length <= 900) : dy ks [⟨.kind 5, 0, 900⟩, ⟨.base, 1, 1⟩, ⟨.term, 1, 1⟩] = (((decide (2 <= ks.length) && (ks.take (ks.length - 2)).all fun k => decide (k = 5)) && j5 (ks.getD (ks.length - 2) 0)) && fH (ks.getD (ks.length - 1) 0)) := by
 have := xG ⟨.kind 5, 0, 900⟩ [.base, .term] ks (by simp; omega)
 simp only [dJ, hC, jL, o8, cr, Nat.reduceAdd] at this
 rw [this]
 by_cases h : 2 <= ks.length
 · rw [getD_take ks (ks.length - 2) (by omega), show ks.length - 2 + 1 = ks.length - 1 by omega, getD_take ks (ks.length - 1) (by omega), List.drop_of_length_le (show ks.length <= ks.length - 1 + 1 by omega)]
   have e1 := iK .base [.term] (ks.getD (ks.length - 2) 0) [ks.getD (ks.length - 1) 0] rfl
   have e2 := iK .term [] (ks.getD (ks.length - 1) 0) [] rfl
   simp only [dJ, hC] at e1 e2
   rw [e1, e2]
   simp only [dy, List.isEmpty_nil, Bool.and_true, Bool.and_assoc, qD.is]
   rfl
 · simp [h]
theorem UG {ks : List Int} (hl : ks.length <= 900) : dy ks [⟨.kind 37, 1, 900⟩, ⟨.term, 1, 1⟩] = ((decide (2 <= ks.length) && (ks.take (ks.length - 1)).all fun k => decide (k = 37)) && fH (ks.getD (ks.length - 1) 0)) := by
 have := xG ⟨.kind 37, 1, 900⟩ [.term] ks (by simp; omega)
 simp only [dJ, hC, jL, o8, cr, Nat.reduceAdd] at this
 rw [this]
 by_cases h : 2 <= ks.length
 · rw [getD_take ks (ks.length - 1) (by omega), List.drop_of_length_le (show ks.length <= ks.length - 1 + 1 by omega)]
   have e2 := iK .term [] (ks.getD (ks.length - 1) 0) [] rfl
   simp only [dJ, hC] at e2
   rw [e2]
   simp only [dy, List.isEmpty_nil, Bool.and_true, Bool.and_assoc, qD.is]
   rfl
 · simp [h]
theorem RX {ks : List Int} (hl : ks.length <= 900) : dy ks [⟨.term, 1, 1⟩, ⟨.kind 37, 1, 1⟩, ⟨.term, 1, 1⟩] = (((decide (ks.length = 3) && fH (ks.getD 0 0)) && decide (ks.getD 1 0 = 37)) && fH (ks.getD 2 0)) := by
 by_cases h : ks.length = 3
 · match ks, h with
   | [a, b, c], _ =>
     have e1 := iK .term [.kind 37, .term] a [b, c] rfl
     have e2 := iK (.kind 37) [.term] b [c] rfl
     have e3 := iK .term [] c [] rfl
     simp only [dJ, hC] at e1 e2 e3
     rw [e1, e2, e3]
     simp [dy, qD.is, Bool.and_assoc]
 · have := nr [.term, .kind 37, .term] ks
   simp only [dJ, hC, jL, o8, cr, Nat.reduceAdd] at this
   cases hf : dy ks [⟨.term, 1, 1⟩, ⟨.kind 37, 1, 1⟩, ⟨.term, 1, 1⟩] with
   | true => exact absurd (this hf) h
   | false => simp [h]
end Go.Rip
namespace Go.Rip
open Go.Proofs Go.RowKit
section
variable {U : St} {bt : BT} {l : Bool} {k : IntKind} {a b : Int} {K' : AV -> St -> Prop} {Kp : AV -> St -> Prop}
theorem eD (h : K' (.bool (decide (a = b))) U) : (aj .eql bt l (.int k a) (.int k b)).wp K U K' Kp := by rw [aX]; exact h
theorem NK (h : K' (.bool (!decide (a = b))) U) : (aj .neq bt l (.int k a) (.int k b)).wp K U K' Kp := by rw [cM]; exact h
theorem tO (h : K' (.bool (decide (b <= a))) U) : (aj .geq bt l (.int k a) (.int k b)).wp K U K' Kp := by rw [dT]; exact h
theorem rv (h : K' (.bool (decide (b < a))) U) : (aj .gtr bt l (.int k a) (.int k b)).wp K U K' Kp := by rw [dK]; exact h
theorem cR {A B : Prop} (h : A) : aq (.bool true) A B := by rw [bf]; exact h
theorem dQ {A B : Prop} (h : B) : aq (.bool false) A B := by rw [aW]; exact h
theorem dk {p : Prop} [Decidable p] {A B : Prop} (h : p -> A) (h' : ¬ p -> B) : aq (.bool (decide p)) A B := by rw [aY]; exact ⟨h, h'⟩
end
theorem HL {v : AV} {ks : List Int} (hv : eh v ks.length (eL ks)) (hl : ks.length <= 900) (k : Int) : Pure K 72 [.int .u8 k, v] (.bool (oo k ks)) := by
 intro U R hR
 refine Pp ?_
 unfold Q7
 have hlen : bz (some false) v = .val (.int .i64 ks.length) := hv.len
 have vj : ks.length <= 100000 := by omega
 rw [hlen, ah]
 refine eD ?_
 have out : ∀ {b : Bool}, oo k ks = b -> ak R (.bool b) U := fun h => by rw [h] at hR; exact ak.mk hR
 refine dk (fun h1 => ?_) fun h1 => ?_
 · refine (CS hv vj).go (out ?_)
   rw [h1]
   show dy ks [⟨.item, 0, 900⟩] = _
   rw [nT (p := o0) rfl rfl, decide_eq_true (by omega), Bool.true_and]
 intro j hj
 have Cx : k = 2 \/ k = 5 -> j v (.int .i64 ks.length) (.int .u8 k) (.bool true) U := fun hk => by
  refine hj _ _ _ _ _ ?_
  refine cR ?_
  refine eD ?_
  refine yB hv FA (fun h => by rw [c7] at h; omega) (out ?_)
  have hf : eG k = some ⟨true, false, false, [⟨.type, 1, 1⟩]⟩ := by rcases hk with rfl | rfl <;> rfl
  unfold oo
  rw [hf]
  show dy ks [⟨.type, 1, 1⟩] = _
  rw [nT (p := qz) rfl rfl]
  by_cases hn : ks.length = 1
  · match ks, hn with
    | [a], _ => simp
  · rw [decide_eq_false (by omega), decide_eq_false (by omega), Bool.false_and, Bool.false_and]
 have YH : k ≠ 2 -> k ≠ 5 -> j v (.int .i64 ks.length) (.int .u8 k) (.bool false) U := fun Gm hn5 => by
  refine hj _ _ _ _ _ ?_
  refine dQ ?_
  intro j1 qQ
  have Cy : k = 3 \/ k = 4 -> j1 v (.int .i64 ks.length) (.int .u8 k) (.bool true) U := fun hk => by
   refine qQ _ _ _ _ _ ?_
   refine cR ?_
   refine tO ?_
   refine BY (b := 2) hv vj (by omega) (fun h => by omega) ?_
   refine yA (b := 2) hv vj pv (by omega) (fun h => by rw [bR, c7] at h; omega) ?_
   refine yA (b := 1) hv vj lq (by omega) (fun h => by simp only [bR, c7] at h; omega) (out ?_)
   have hf : eG k = some ⟨true, false, false, [⟨.kind 5, 0, 900⟩, ⟨.base, 1, 1⟩, ⟨.term, 1, 1⟩]⟩ := by rcases hk with rfl | rfl <;> rfl
   unfold oo
   rw [hf]
   show dy ks [⟨.kind 5, 0, 900⟩, ⟨.base, 1, 1⟩, ⟨.term, 1, 1⟩] = _
   rw [Og hl]
   have e2 : decide (((2 : Nat) : Int) <= (ks.length : Int)) = decide (2 <= ks.length) := by rw [decide_eq_decide]; omega
   simp only [<- e2]; rfl
  have YI : k ≠ 3 -> k ≠ 4 -> j1 v (.int .i64 ks.length) (.int .u8 k) (.bool false) U := fun hn3 hn4 => by
   refine qQ _ _ _ _ _ ?_
   refine dQ ?_
   refine eD (dk (fun h => ?_) fun hn8 => ?_)
   · refine tO ?_
     refine o1 (CR hv vj) (out ?_)
     rw [h]
     show dy ks [⟨.base, 2, 900⟩] = _
     rw [nT (p := j5) rfl rfl]
     congr 1; rw [decide_eq_decide]; omega
   refine eD (dk (fun h => ?_) fun hn9 => ?_)
   · refine tO ?_
     refine o1 (oh hv vj) (out ?_)
     rw [h]
     show dy ks [⟨.term, 2, 900⟩] = _
     rw [nT (p := fH) rfl rfl]
     congr 1; rw [decide_eq_decide]; omega
   refine eD (dk (fun h => ?_) fun Vo => ?_)
   · refine eD ?_
     refine o1 (oh hv vj) (out ?_)
     rw [h]
     show dy ks [⟨.term, 3, 3⟩] = _
     rw [nT (p := fH) rfl rfl]
     congr 1; rw [decide_eq_decide]; omega
   intro j2 oR
   have Yz : eG k = some ⟨jm k, false, false, [⟨.term, 2, 2⟩]⟩ -> j2 v (.int .i64 ks.length) (.int .u8 k) (.bool true) U := fun hf => by
    refine oR _ _ _ _ _ ?_
    refine cR ?_
    refine eD ?_
    refine o1 (oh hv vj) (out ?_)
    unfold oo
    rw [hf]
    show dy ks [⟨.term, 2, 2⟩] = _
    rw [nT (p := fH) rfl rfl]
    congr 1; rw [decide_eq_decide]; omega
   have YJ : k ≠ 11 -> k ≠ 13 -> k ≠ 15 -> k ≠ 17 -> k ≠ 18 -> ¬ (20 <= k /\ k <= 24) -> j2 v (.int .i64 ks.length) (.int .u8 k) (.bool false) U := fun m11 m13 m15 m17 m18 m20 => by
    refine oR _ _ _ _ _ ?_
    refine dQ ?_
    intro j3 Gi
    have pw : ∀ f : Bk, eG k = some f -> f.kids = [⟨.term, 1, 1⟩] -> j3 v (.int .i64 ks.length) (.int .u8 k) (.bool true) U := fun f hf Qj => by
     refine Gi _ _ _ _ _ ?_
     refine cR ?_
     refine eD ?_
     refine o1 (oh hv vj) (out ?_)
     unfold oo
     rw [hf]
     show dy ks f.kids = _
     rw [Qj, nT (p := fH) rfl rfl]
     congr 1; rw [decide_eq_decide]; omega
    have YK : k ≠ 12 -> k ≠ 14 -> k ≠ 16 -> k ≠ 19 -> k ≠ 25 -> j3 v (.int .i64 ks.length) (.int .u8 k) (.bool false) U := fun m12 m14 m16 m19 m25 => by
     refine Gi _ _ _ _ _ ?_
     refine dQ ?_
     refine eD (dk (fun h => ?_) fun m34 => ?_)
     · refine tO ?_
       refine o1 (E8 hv vj) (out ?_)
       rw [h]
       show dy ks [⟨.arg, 1, 900⟩] = _
       rw [nT (p := j0) rfl rfl]
       congr 1; rw [decide_eq_decide]; omega
     refine eD (dk (fun h => ?_) fun m35 => ?_)
     · refine tO ?_
       refine BY (b := 1) hv vj (by omega) (fun h => by omega) ?_
       refine yA (b := 1) hv vj lq (by omega) (fun h => by simp only [bR, c7] at h; omega) (out ?_)
       rw [h]
       show dy ks [⟨.kind 37, 1, 900⟩, ⟨.term, 1, 1⟩] = _
       rw [UG hl]
       have e2 : decide (((2 : Nat) : Int) <= (ks.length : Int)) = decide (2 <= ks.length) := by rw [decide_eq_decide]; omega
       simp only [<- e2]; rfl
     refine eD (dk (fun h => ?_) fun m36 => ?_)
     · refine eD ?_
       refine yB hv lq (fun h => by rw [c7] at h; omega) ?_
       refine JY hv (fun h => by simp only [bR, c7] at h; omega) ?_
       refine yB hv lq (fun h => by simp only [bR, c7] at h; omega) (out ?_)
       rw [h]
       show dy ks [⟨.term, 1, 1⟩, ⟨.kind 37, 1, 1⟩, ⟨.term, 1, 1⟩] = _
       rw [RX hl]
       have e2 : decide ((ks.length : Int) = 3) = decide (ks.length = 3) := by rw [decide_eq_decide]; omega
       simp only [e2]; rfl
     intro j4 Zr
     have YA : eG k = some ⟨(jm k), pr k, false, []⟩ -> j4 (.int .i64 ks.length) (.bool true) U := fun hf => by
      refine Zr _ _ _ ?_
      refine cR ?_
      refine eD ?_
      refine out ?_
      unfold oo
      rw [hf]
      show dy ks [] = _
      rw [dy, lY, List.isEmpty_iff, c7]
      constructor
      · rintro rfl; rfl
      · intro h; exact oH.1 (by omega)
     have last : eG k = none -> j4 (.int .i64 ks.length) (.bool false) U := fun hf => by
      refine Zr _ _ _ ?_
      refine dQ ?_
      refine out ?_
      unfold oo
      rw [hf]
     have JX : ∀ b, b = true -> eG k = some ⟨(jm k), pr k, false, []⟩ -> j4 (.int .i64 ks.length) (.bool b) U := fun b hb h => by subst hb; exact YA h
     have Yy : ∀ b, b = false -> eG k = none -> j4 (.int .i64 ks.length) (.bool b) U := fun b hb h => by subst hb; exact last h
     iterate 10
      refine eD (dk (fun h => JX _ (by simpa using h) (by rw [h]; rfl)) fun _ => ?_)
     refine eD ?_
     by_cases h : k = 37
     · exact JX _ (by simpa using h) (by rw [h]; rfl)
     · exact Yy _ (by simpa using h) (mV (by omega))
    simp only [aX, ah, aY]
    refine ⟨fun h => ?_, fun m12 => ⟨fun h => ?_, fun m14 => ⟨fun h => ?_, fun m16 => ⟨fun h => ?_, fun m19 => ?_⟩⟩⟩⟩
    · simp only [h, bT]; rw [h] at pw; exact pw _ rfl rfl
    · simp only [h, bT]; rw [h] at pw; exact pw _ rfl rfl
    · simp only [h, bT]; rw [h] at pw; exact pw _ rfl rfl
    · simp only [h, bT]; rw [h] at pw; exact pw _ rfl rfl
    · by_cases h : k = 25
      · simp only [h, bT]; rw [h] at pw; exact pw _ rfl rfl
      · simp only [h, ct]; exact YK m12 m14 m16 m19 h
   have na : ∀ b, b = true -> eG k = some ⟨jm k, false, false, [⟨.term, 2, 2⟩]⟩ -> j2 v (.int .i64 ks.length) (.int .u8 k) (.bool b) U := fun b hb h => by subst hb; exact Yz h
   refine eD (dk (fun h => na _ (by simpa using h) (by rw [h]; rfl)) fun m11 => ?_)
   refine eD (dk (fun h => na _ (by simpa using h) (by rw [h]; rfl)) fun m13 => ?_)
   refine eD (dk (fun h => na _ (by simpa using h) (by rw [h]; rfl)) fun m15 => ?_)
   refine eD (dk (fun h => na _ (by simpa using h) (by rw [h]; rfl)) fun m17 => ?_)
   refine eD (dk (fun h => na _ (by simpa using h) (by rw [h]; rfl)) fun m18 => ?_)
   refine eD (dk (fun h => na _ (by simpa using h) (by rw [h]; rfl)) fun m20 => ?_)
   refine eD (dk (fun h => na _ (by simpa using h) (by rw [h]; rfl)) fun m21 => ?_)
   refine eD (dk (fun h => na _ (by simpa using h) (by rw [h]; rfl)) fun m22 => ?_)
   refine eD (dk (fun h => na _ (by simpa using h) (by rw [h]; rfl)) fun m23 => ?_)
   refine eD ?_
   by_cases h : k = 24
   · exact na _ (by simpa using h) (by rw [h]; rfl)
   · simp only [h, ct]; exact YJ m11 m13 m15 m17 m18 (by omega)
  refine eD (dk (fun h => ?_) fun m3 => ?_)
  · simp only [h, bT]; rw [h] at Cy; exact Cy (.inl rfl)
  · refine eD ?_
    by_cases h : k = 4
    · simp only [h, bT]; rw [h] at Cy; exact Cy (.inr rfl)
    · simp only [h, ct]; exact YI m3 h
 refine eD (dk (fun h => ?_) fun m2 => ?_)
 · simp only [h, bT]; rw [h] at Cx; exact Cx (.inl rfl)
 · refine eD ?_
   by_cases h : k = 5
   · simp only [h, bT]; rw [h] at Cx; exact Cx (.inr rfl)
   · simp only [h, ct]; exact YH m2 h
def lj (x : Nd) : Bool := (jm x.kind == decide (x.text ≠ [])) && (!decide (x.text ≠ []) || iZ x.text) && (if pr x.kind then hZ x.n else decide (x.n = 0)) && (if x.kind = 12 then hZ x.m else decide (x.m = 0))
theorem Ck : ∀ n : Fin 38, (match eG ((n.val : Nat) : Int) with | some f => f.text == jm (n.val : Nat) && f.n == pr (n.val : Nat) && f.m == decide (((n.val : Nat) : Int) = 12) | none => true) = true := by decide +kernel
theorem Dc {k : Int} {f : Bk} (h : eG k = some f) : f.text = jm k /\ f.n = pr k /\ f.m = decide (k = 12) := by
 have hk : 1 <= k /\ k <= 37 := by
  by_cases h1 : k < 1 \/ 37 < k
  · rw [mV h1] at h; cases h
  · omega
 obtain ⟨n, rfl⟩ : ∃ n : Nat, k = n := ⟨k.toNat, by omega⟩
 have := Ck ⟨n, by omega⟩
 simp only [h, bR, beq_iff_eq] at this
 exact ⟨this.1.1, this.1.2, this.2⟩
theorem Bv {x : Nd} {f : Bk} (h : eG x.kind = some f) : lj x = lP x f := by
 obtain ⟨h1, h2, h3⟩ := Dc h
 have z : hZ 0 = true := by simp [hZ]
 unfold lj lP
 rw [<- h1, <- h2]
 have hm : (if x.kind = 12 then hZ x.m else decide (x.m = 0)) = (if f.m = true then hZ x.m else decide (x.m = 0)) := by
  rw [h3]; by_cases h : x.kind = 12 <;> simp [h]
 rw [hm]
 have e0 : (x.text != []) = decide (x.text ≠ []) := by
  by_cases h : x.text = [] <;> simp [h]
 rw [e0]
 by_cases ht : x.text = []
 · have : iZ [] = false := by decide
   cases f.text <;> cases f.n <;> cases f.m <;> by_cases hn : x.n = 0 <;> by_cases Dw : x.m = 0 <;> simp [ht, hn, Dw, z, this]
 · cases f.text <;> cases f.n <;> cases f.m <;> by_cases hn : x.n = 0 <;> by_cases Dw : x.m = 0 <;> simp [ht, hn, Dw, z]
end Go.Rip
namespace Go.Rip
open Go.Proofs Go.RowKit
theorem iL {f : FuncId} {args : List AV} {x : AV} {kq : AV -> Prop} (h : Pure K f args x) (hk : kq x) : aw K (au.enter f args) kq := ⟨x, h, hk⟩
theorem gx {b o k : Nat} {kq : AV -> Prop} (h : kq (.box b (o + k))) : aw K (ag (some k) (.box b o)) kq := h
theorem UK {b o k : Nat} {kq : AV -> Prop} (h : kq (.box b (o + k))) : ad K (.bool true) (ag (some k) (.box b o)) kq := h
theorem Df {U : St} {b o : Nat} {L l : List AV} {x : AV} {kq : AV -> Prop} (hb : U.box b = some L) (hd : L.drop o = x :: l) (h : kq x) : ad K (.bool true) (ao (some (false, 1)) (.box b o) U) kq := by rw [ld hb, hd]; exact h
theorem db {U : St} {b o : Nat} {L l : List AV} {x : AV} {kq : AV -> Prop} (hb : U.box b = some L) (hd : L.drop o = x :: l) (h : kq x) : aw K (ao (some (false, 1)) (.box b o) U) kq := by rw [ld hb, hd]; exact h
theorem eP {U τ : St} {b o : Nat} {L l : List AV} {x : AV} {K' : AV -> St -> Prop} {Kp : AV -> St -> Prop} (hb : U.box b = some L) (hd : L.drop o = x :: l) (h : K' x τ) : (ao (some (false, 1)) (.box b o) U).wp K τ K' Kp := by rw [ld hb, hd]; exact h
theorem Fm (x : Nd) (hs : x.text.length <= 100000) : Pure K 71 [.agg (bO x)] (.bool (lj x)) := by
 refine Pure.of rfl rfl (fun U => rfl) fun R hR => ?_
 refine Po ?_
 unfold Q6
 rw [ff rfl]
 intro b hb
 have m : ((bD ⟨.e, 0⟩).new b (.box (ay (.agg (bO x))))).box b = some (bO x) := aN
 generalize (bD _).new b _ = U at *
 clear hb
 have out : ∀ {b : Bool}, lj x = b -> ak R (.bool b) U := fun h => by rw [h] at hR; exact ak.mk (hR _)
 refine gx (db m rfl (iL (Ji _) ?_))
 refine gx (db m rfl ?_)
 rw [jI, av, vE, av]
 have hw : (!decide (x.text = w_)) = decide (x.text ≠ []) := by
  by_cases h : x.text = [] <;> simp [h, w_]
 rw [hw]
 have rest : (jm x.kind != decide (x.text ≠ [])) = false -> (decide (x.text ≠ []) && !iZ x.text) = false ->
  (ag (some 0) (.box b 0)).wp K U (fun v21 U =>
  (ao (some (false, 1)) v21 U).wp K U (fun cm U =>
  af K 136 [cm] U (ax (fun du U =>
  ad K (ar du true) (ag (some 2) (.box b 0)) (fun dO =>
  ad K (ar du true) (ao (some (false, 1)) dO U) (fun dE =>
  ad K (ar du true) (au.enter 137 [dE]) (fun di =>
  ad K (ar du true) (fF .not di) (fun v28 =>
  (aQ du v28 (AV.bool false)).wp K U (fun cC U =>
  ad K (ar cC false) (ag (some 0) (.box b 0)) (fun v31 =>
  ad K (ar cC false) (ao (some (false, 1)) v31 U) (fun fG =>
  ad K (ar cC false) (au.enter 136 [fG]) (fun dP =>
  ad K (ar cC false) (fF .not dP) (fun eI =>
  ad K (ar cC false) (au.val eI) (fun er =>
  ad K (ar er true) (ag (some 2) (.box b 0)) (fun fq =>
  ad K (ar er true) (ao (some (false, 1)) fq U) (fun v37 =>
  ad K (ar er true) (aj .neq (BT.mk false false false none false) true v37 (AV.int .i64 0)) (fun eY =>
  ad K (ar cC false) (aQ er eY (AV.bool false)) (fun je =>
  (aQ cC (AV.bool true) je).wp K U (fun v40 U =>
  aq v40 (
   ak R (AV.bool false) U) (
   (ag (some 0) (.box b 0)).wp K U (fun gQ U =>
   (ao (some (false, 1)) gQ U).wp K U (fun iH U =>
   (aj .eql (BT.mk false false false none false) true iH (AV.int .u8 12)).wp K U (fun dY U =>
   ad K (ar dY true) (ag (some 3) (.box b 0)) (fun jf =>
   ad K (ar dY true) (ao (some (false, 1)) jf U) (fun v46 =>
   ad K (ar dY true) (au.enter 137 [v46]) (fun ki =>
   (aQ dY ki (AV.bool false)).wp K U (fun jg U =>
   ad K (ar jg false) (ag (some 0) (.box b 0)) (fun ku =>
   ad K (ar jg false) (ao (some (false, 1)) ku U) (fun v51 =>
   ad K (ar jg false) (aj .neq (BT.mk false false false none false) true v51 (AV.int .u8 12)) (fun kx =>
   ad K (ar jg false) (au.val kx) (fun v53 =>
   ad K (ar v53 true) (ag (some 3) (.box b 0)) (fun kj =>
   ad K (ar v53 true) (ao (some (false, 1)) kj U) (fun iI =>
   ad K (ar v53 true) (aj .eql (BT.mk false false false none false) true iI (AV.int .i64 0)) (fun l9 =>
   ad K (ar jg false) (aQ v53 l9 (AV.bool false)) (fun ky =>
   (aQ jg (AV.bool true) ky).wp K U (fun ni U =>
   ak R ni U) (aa R)))))))))) (aa R))))) (aa R)) (aa R)) (aa R))) (aa R))))))))))) (aa R)))))) (aa R))) (aa R)) (aa R) := by
  intro h1 h2
  have qP : lj x = ((if pr x.kind then hZ x.n else decide (x.n = 0)) && (if x.kind = 12 then hZ x.m else decide (x.m = 0))) := by
   unfold lj
   cases ha : jm x.kind <;> cases hb : decide (x.text ≠ []) <;> cases hc : iZ x.text <;> simp_all
  rw [qP] at out
  clear qP hR hw
  simp only [aV, ah, cr]
  refine eP m rfl ((vW _).go ?_)
  have second : (if pr x.kind then hZ x.n else decide (x.n = 0)) = true -> (ao (some (false, 1)) (.box b 0) U).wp K U (fun iH U =>
   (aj .eql (BT.mk false false false none false) true iH (AV.int .u8 12)).wp K U (fun dY U =>
   ad K (ar dY true) (.val (.box b 3)) (fun jf =>
   ad K (ar dY true) (ao (some (false, 1)) jf U) (fun v46 =>
   ad K (ar dY true) (au.enter 137 [v46]) (fun ki =>
   (aQ dY ki (AV.bool false)).wp K U (fun jg U =>
   ad K (ar jg false) (.val (.box b 0)) (fun ku =>
   ad K (ar jg false) (ao (some (false, 1)) ku U) (fun v51 =>
   ad K (ar jg false) (aj .neq (BT.mk false false false none false) true v51 (AV.int .u8 12)) (fun kx =>
   ad K (ar jg false) (au.val kx) (fun v53 =>
   ad K (ar v53 true) (.val (.box b 3)) (fun kj =>
   ad K (ar v53 true) (ao (some (false, 1)) kj U) (fun iI =>
   ad K (ar v53 true) (aj .eql (BT.mk false false false none false) true iI (AV.int .i64 0)) (fun l9 =>
   ad K (ar jg false) (aQ v53 l9 (AV.bool false)) (fun ky =>
   (aQ jg (AV.bool true) ky).wp K U (fun ni U =>
   ak R ni U) (aa R)))))))))) (aa R))))) (aa R)) (aa R) := by
   intro h3
   rw [h3, Bool.true_and] at out
   refine eP m rfl (eD ?_)
   by_cases hk : x.kind = 12
   · simp only [hk, bT, aI, dG]
     refine dq (Df m rfl (qx (zK _) ?_))
     simp only [aA, if_true, ah]
     rw [if_pos hk] at out
     cases hm : hZ x.m with
     | true =>
       simp only [aI, show (true == false) = false from rfl, aC, a7, gA, aA, if_true, ah]
       exact out hm
     | false =>
       simp only [aI, dG]
       refine dq (Df m rfl ?_)
       simp only [bO, List.drop, cM, hk, bT, ca, aC, bl, av, aI, show (false == true) = false from rfl, a7, aA, bo, if_false, ah]
       exact out hm
   · rw [if_neg hk] at out
     simp only [hk, ct, aI, show (false == true) = false from rfl, aC, a7, aA, bo, if_false, ah, dG, bl, av]
     refine db m rfl ?_
     simp only [cM, hk, ct, dt, av, aI, dG, aC, bl]
     refine db m rfl ?_
     simp only [aX, av, aA, if_true, bo, if_false, ah]
     exact out rfl
  cases hn : pr x.kind with
  | true =>
    rw [hn] at second out
    simp only [if_true] at second out
    simp only [aI, dG]
    refine dq (Df m rfl (qx (zK _) ?_))
    simp only [c8, aC, bl, av, aA, if_true, ah]
    cases hv : hZ x.n with
    | false =>
      simp only [dt, aI, show (true == false) = false from rfl, aC, a7, gA, aA, if_true, ah]
      refine cR (out ?_)
      rw [hv]; rfl
    | true =>
      simp only [ca, aI, dG]
      simp only [aC, bl, av]
      refine db m rfl (iL (vW _) ?_)
      rw [hn]
      simp only [c8, ca, av, aI, show (false == true) = false from rfl, aC, a7, aA, bo, if_false, ah]
      exact dQ (second hv)
  | false =>
    rw [hn] at second out
    simp only [bo, if_false] at second out
    simp only [aI, show (false == true) = false from rfl, aC, a7, aA, bo, if_false, ah, dG, bl, av]
    refine db m rfl (iL (vW _) ?_)
    rw [hn]
    simp only [c8, dt, av, aI, dG, aC, bl]
    refine db m rfl ?_
    simp only [cM, av, aA, if_true, bo, if_false, ah]
    by_cases h0 : x.n = 0
    · simp only [h0, bT, ca]
      exact dQ (second (by simp [h0]))
    · simp only [h0, ct, dt]
      exact cR (out (by simp [h0]))
 have Zk : (jm x.kind != decide (x.text ≠ [])) = true \/ (decide (x.text ≠ []) && !iZ x.text) = true -> lj x = false := fun h => by
  unfold lj
  cases ha : jm x.kind <;> cases hb : decide (x.text ≠ []) <;> cases hc : iZ x.text <;> simp_all
 cases h1 : (jm x.kind != decide (x.text ≠ [])) with
 | true =>
   simp only [aI, show (true == false) = false from rfl, aC, a7, gA, aA, if_true, av]
   exact cR (out (Zk (.inl h1)))
 | false =>
   simp only [aI, dG, aV, aC, bl, av, cr]
   refine db m rfl ?_
   rw [jI, av, hw]
   cases h0 : decide (x.text ≠ []) with
   | false =>
     simp only [aI, show (false == true) = false from rfl, aC, a7, av, aA, bo, if_false]
     exact dQ (rest h1 (by rw [h0]; rfl))
   | true =>
     simp only [aI, dG, aC, bl, av]
     refine db m rfl (iL (Fz _ hs) ?_)
     simp only [c8, av, aA, if_true, bo, if_false]
     cases hn : iZ x.text with
     | true => exact dQ (rest h1 (by rw [hn]; simp))
     | false => exact cR (out (Zk (.inr (by rw [h0, hn]; rfl))))
end Go.Rip
namespace Go.Rip
open Go.Proofs Go.RowKit
def mr (x : Nd) (ks : List Int) : Bool := lj x && oo x.kind ks
theorem Ec {k : Int} {t : bh} {n m a : Int} {ks : List Tre} {x : Nd} (h1 : x.kind = k) (h2 : x.text = t) (h3 : x.n = n) (h4 : x.m = m) : (Tre.mk k t n m a ks).ok = (mr x (ks.map Tre.kind) && Tre.rW ks) := by
 rw [Tre.ok]
 congr 1
 unfold mr oo
 rw [h1]
 cases hf : eG k with
 | none => simp
 | some f =>
   rw [Bv (f := f) (by rw [h1]; exact hf)]
   congr 1
   unfold lP
   simp only [h2, h3, h4]
theorem uU {l : List Nd} : ∀ {ts : List Tre} {p q fX : Nat}, jr l p ts -> (bG p ts)[q]? = some fX -> ∃ u, ts[q]? = some u /\ eQ l fX u
 | [], p, q, fX, h, hk => by simp [bG] at hk
 | t :: ts, p, 0, fX, h, hk => by simp [bG] at hk; subst hk; exact ⟨t, rfl, h.head⟩
 | t :: ts, p, q + 1, fX, h, hk => by
   simp only [bG, List.getElem?_cons_succ] at hk
   obtain ⟨u, h1, h2⟩ := uU h.tail hk
   exact ⟨u, by simpa using h1, h2⟩
theorem zT {l : List Nd} : ∀ (N : Nat) (ts : List Tre) (p : Nat), (Tre.bB ts).length <= N -> jr l p ts -> (∀ j s x, p <= j -> j < p + (Tre.bB ts).length -> eQ l j s -> l[j]? = some x -> mr x (s.kids.map Tre.kind) = true) -> Tre.rW ts = true
 | _, [], _, _, _, _ => by simp
 | 0, t :: ts, _, hN, _, _ => by have := t.cV; simp only [Tre.cO, eU] at hN; omega
 | N + 1, .mk k tx n m a ks :: ts, p, hN, h, bm => by
   have qO : (Tre.mk k tx n m a ks).flat.length = (Tre.bB ks).length + 1 := gK (.mk k tx n m a ks)
   simp only [Tre.cO, eU] at hN bm
   rw [Tre.uB]
   obtain ⟨x, hx, h1, h2, h3, h4, h5, h6⟩ := h.head.lB
   rw [Ec (k := k) (t := tx) (n := n) (m := m) (x := x) h1 h3 h4 h5]
   have e1 : mr x (ks.map Tre.kind) = true := bm p _ x (cX _) (by omega) h.head hx
   have e2 := zT N ks (p + 1) (by omega) h.head.kids fun j s y qQ oR => bm j s y (by omega) (by omega)
   have e3 := zT N ts (p + (Tre.flat (.mk k tx n m a ks)).length) (by omega) h.tail fun j s y qQ oR => bm j s y (by omega) (by omega)
   rw [e1, e2, e3]; rfl
theorem EG {t : Tre} (h : t.ok = true) {i : Nat} {s : Tre} (hs : eQ t.flat i s) : s.ok = true := by
 have hi : i < t.flat.length := by have := hs.le; have := s.cV; omega
 obtain ⟨s', h1, h2⟩ := xo (l := t.flat) t.flat.length [t] 0 (by simp) ⟨[], by simp⟩ i (by omega) (by simpa using hi)
 rw [hs.inj h1]
 exact h2 (by simp [h])
theorem yE {s : Tre} (h : s.ok = true) {l : List Nd} {i : Nat} {x : Nd} (hs : eQ l i s) (hx : l[i]? = some x) : mr x (s.kids.map Tre.kind) = true := by
 obtain ⟨y, hy, h1, h2, h3, h4, h5, h6⟩ := hs.lB
 rw [hx] at hy; cases hy
 cases s with
 | mk k tx n m a ks =>
   rw [Ec (k := k) (t := tx) (n := n) (m := m) (x := x) h1 h3 h4 h5, bR] at h
   exact h.1
theorem F9 : ∀ (ss : List mB) (ks : List Int), dy ks ss = true -> ∀ k ∈ ks, ∃ s ∈ ss, s.c.is k = true
 | [], ks, h, k, hk => by rw [dy, List.isEmpty_iff] at h; subst h; simp at hk
 | s :: ss, ks, h, k, hk => by
   rw [dy] at h
   split at h
   · cases h
   · generalize hq : ((ks.take (min (ks.length - (ss.map (·.least)).sum) s.mL)).takeWhile s.c.is) = q at *
     have uj : q <+: ks := by
      rw [<- hq]
      exact (ri _).trans (List.take_prefix _ _)
     have iE : ks = q ++ ks.drop q.length := by
      obtain ⟨r, hr⟩ := uj
      rw [<- hr]; simp
     rw [iE, eZ] at hk
     rcases hk with hk | hk
     · refine ⟨s, by simp, ?_⟩
       have : ∀ l : List Int, k ∈ l.takeWhile s.c.is -> s.c.is k = true := fun l => by
        induction l with
        | nil => simp
        | cons a l ih =>
          rw [nG]
          split
          · rename_i ha
            intro h
            rcases dS.1 h with rfl | h
            · exact ha
            · exact ih h
          · simp
       rw [<- hq] at hk
       exact this _ hk
     · obtain ⟨s', h1, h2⟩ := F9 ss _ h k hk
       exact ⟨s', by simp [h1], h2⟩
theorem Se : ∀ n : Fin 38, (match eG ((n.val : Nat) : Int) with | some f => f.kids.all fun s => !s.c.is 1 | none => true) = true := by decide +kernel
theorem V7 {k : Int} {ks : List Int} (h : oo k ks = true) : (1 : Int) ∉ ks := by
 intro hm
 unfold oo at h
 split at h
 · rename_i f hf
   obtain ⟨s, h1, h2⟩ := F9 _ _ h 1 hm
   have hk : 1 <= k /\ k <= 37 := by
    by_cases h1 : k < 1 \/ 37 < k
    · rw [mV h1] at hf; cases hf
    · omega
   obtain ⟨n, rfl⟩ : ∃ n : Nat, k = n := ⟨k.toNat, by omega⟩
   have := Se ⟨n, by omega⟩
   simp only [hf, ef] at this
   have := this s h1
   rw [h2] at this; cases this
 · cases h
theorem SK {t : Tre} (h : t.ok = true) {i : Nat} {s : Tre} (hs : eQ t.flat i s) (hi : 0 < i) : s.kind ≠ 1 := by
 have aJ : i < t.flat.length := by have := hs.le; have := s.cV; omega
 rcases (place t aJ).2 with h0 | ⟨i', s', h1, h2, h3⟩
 · omega
 · obtain ⟨q, hq, DD⟩ := List.getElem_of_mem h3
   obtain ⟨u, VC, zF⟩ := uU h2.kids (show (bG (i' + 1) s'.kids)[q]? = some i by rw [<- DD]; simp)
   have := hs.inj zF
   subst this
   have dL := EG h h2
   obtain ⟨x, hx, hk, _⟩ := h2.lB
   have hn := yE dL h2 hx
   unfold mr at hn
   rw [bR] at hn
   intro e
   refine V7 hn.2 ?_
   rw [<- e]
   exact List.mem_map_of_mem (fO VC)
theorem IP {l : List Nd} (h9 : ¬ 900 < l.length) (h : ¬ tU l) : fi l = 4 := by
 unfold fi
 rw [if_neg h9, Cf (fun h' => h ((se l).2 h'))]
end Go.Rip
namespace Go.Rip
open Go.Proofs Go.RowKit
theorem tN {U : St} {bt : BT} {l : Bool} {k : IntKind} {a b : Int} {A B : AV -> St -> Prop} {Kp : AV -> St -> Prop} (h : a < b -> A (.bool true) U) (h' : ¬ a < b -> B (.bool false) U) : (aj .lss bt l (.int k a) (.int k b)).wp K U (fun v U => aq v (A v U) (B v U)) Kp := by
 rw [bg, ah]
 by_cases hc : a < b
 · simp only [hc, bT]; exact cR (h hc)
 · simp only [hc, ct]; exact dQ (h' hc)
theorem RZ {U : St} {v : AV} {l : List Nd} {i : Nat} {x : Nd} {cb : Bool} {c : Int} {bt : BT} {lb : Bool} {K' : AV -> St -> Prop} {Kp : AV -> St -> Prop} (h : gU U v l) (hx : l[i]? = some x) (hk : K' (.bool (cb && decide (x.kind = c))) U) :
 ad K (ar (.bool cb) true) (au.val v) fun a => ad K (ar (.bool cb) true) (au.val (.int .i64 (i : Nat))) fun b => ad K (ar (.bool cb) true) (aF (some (43, 6)) none a b) fun p => ad K (ar (.bool cb) true) (ag (some 0) p) fun q =>
  ad K (ar (.bool cb) true) (ao (some (false, 1)) q U) fun y => ad K (ar (.bool cb) true) (aj .eql bt lb y (.int .u8 c)) fun z => (aQ (.bool cb) z (.bool false)).wp K U K' Kp := by
 cases cb with
 | true =>
   simp only [aI, dG]
   refine dq (dq (Ok h hx (HZ x) ?_))
   rw [aX]
   refine dq ?_
   simp only [aA, if_true, ah]
   simpa using hk
 | false =>
   simp only [aI, show (false == true) = false from rfl, aC, a7, aA, bo, if_false, ah]
   simpa using hk
theorem F2 {U : St} {R : cD -> St -> Prop} {v : AV} {l : List Nd} (hv : gU U v l) (hl : l.length <= 50000) (iW : ∀ x ∈ l, x.text.length <= 100000)
 (h : ∀ ae, cL U ae -> R (.ret (.int .i64 (fi l))) ae) : af K 31 [.agg [v]] U R := by
 refine Pa ?_
 unfold QU
 rw [ff rfl]
 intro b1 eH
 have m1 : (U.new b1 (.box (ay (.agg [v])))).box b1 = some [v] := aN
 have e1 := bE eH (x := .box (ay (.agg [v])))
 generalize U.new b1 (.box (ay (.agg [v]))) = bJ at *
 clear eH
 simp only [aV, ah, cr]
 refine eP m1 rfl ?_
 have JD := hv.pD e1
 rw [JD.len, ah]
 refine rv (dk (fun h9 => ?_) fun h9 => ?_)
 · have : fi l = 5 := by unfold fi; rw [if_pos (by omega)]
   rw [this] at h
   exact ak.mk (h _ e1)
 have h9 : ¬ 900 < l.length := by omega
 refine SD JD (by omega) (fun hS => ?_) fun hS => ?_
 rotate_left
 · simp only [bA, c8, ah, dt, aI, show (true == false) = false from rfl, aC, a7, aA, if_true]
   refine cR ?_
   rw [IP h9 hS] at h
   exact ak.mk (h _ e1)
 obtain ⟨t, ht⟩ := (se l).1 hS
 subst ht
 rw [Bs t h9] at h
 clear hS
 have zC := eQ.whole t
 obtain ⟨x0, hx0, Vd, _⟩ := zC.lB
 have nA := t.cV
 simp only [bA, c8, ah, ca, aI, dG, aC, bl, av]
 refine Ie (i := 0) JD hx0 (HZ x0) ?_
 rw [cM, av]
 simp only [aA, bo, if_false, ah, Vd]
 by_cases nY : t.kind = 1
 rotate_left
 · simp only [nY, ct, dt]
   refine cR ?_
   have : qH t = 4 := by unfold qH; rw [if_pos (.inl nY)]
   rw [this] at h
   exact ak.mk (h _ e1)
 simp only [nY, bT, ca]
 refine dQ ?_
 have bad : t.ok = false -> ∀ ae, cL U ae -> ak R (.int .i64 4) ae := fun ho ae e => by
  have : qH t = 4 := by unfold qH; rw [if_pos (.inr ho)]
  rw [this] at h
  exact ak.mk (h _ e)
 refine ⟨fun m v3 v4 ae => ∃ i : Nat, m = t.flat.length - i /\ v3 = v /\ v4 = .int .i64 (i : Nat) /\ i <= t.flat.length /\ cL U ae /\ ∀ j s x, j < i -> eQ t.flat j s -> t.flat[j]? = some x -> mr x (s.kids.map Tre.kind) = true, ⟨_, 0, rfl, rfl, rfl, by omega, e1, fun j s x h => by omega⟩, ?_⟩
 rintro m v3 v4 bP ⟨i, rfl, rfl, rfl, hi, e2, hN⟩
 have BI := hv.pD e2
 rw [BI.len, ah]
 refine tN (fun aJ => ?_) fun fJ => ?_
 · have aJ : i < t.flat.length := by omega
   obtain ⟨⟨s, _, hs, _⟩, _⟩ := place t aJ
   refine DZ BI hs (by omega) fun cJ dP g3 => ?_
   have vi : (bG (i + 1) s.kids).length = s.kids.length := kZ _ _
   have mX : eh dP (bG (i + 1) s.kids).length (fR (bG (i + 1) s.kids)) := by rw [vi]; exact g3.sl
   have hle := hs.le
   have qO := gK s
   have hkk := Tre.nV s.kids
   simp only [bA]
   have e3 := e2.trans g3.ex
   refine ⟨fun m w3 w4 v5 v6 v7 ae => ∃ q : Nat, m = s.kids.length - q /\ w3 = v3 /\ w4 = .int .i64 (i : Nat) /\ v6 = dP /\ v7 = .int .i64 (q : Nat) /\ q <= s.kids.length /\ dZ U ae v5 5 1 q (eL ((s.kids.take q).map Tre.kind)),
    ⟨_, 0, rfl, rfl, rfl, rfl, rfl, by omega, by simpa [eL] using dZ.nil e3⟩, ?_⟩
   clear e3
   rintro m w3 w4 v5 v6 v7 cu ⟨q, rfl, rfl, rfl, rfl, rfl, hq, g⟩
   have Ym : bz (some false) v6 = .val (.int .i64 (bG (i + 1) s.kids).length) := mX.len
   have DL := hv.pD g.ex
   rw [Ym, ah, vi]
   refine tN (fun Vw => ?_) fun Vw => ?_
   · have Vw : q < s.kids.length := by omega
     obtain ⟨fX, yw⟩ : ∃ fX, (bG (i + 1) s.kids)[q]? = some fX := ⟨(bG (i + 1) s.kids)[q]'(by omega), by simp⟩
     obtain ⟨u, VC, zF⟩ := uU hs.kids yw
     obtain ⟨y, hy, VJ, _⟩ := zF.lB
     refine Xc mX yw ?_
     refine sW DL hy (HZ y) ?_
     refine RD rfl rfl ?_
     refine wQ g (m := 1) (l2 := [.int .u8 y.kind]) rfl rfl (by omega) (by omega) fun dI v' g5 _ => ?_
     rw [cg]
     refine ⟨aS (by omega) (by omega), s.kids.length - (q + 1), by omega, q + 1, rfl, rfl, rfl, rfl, by simp, Vw, ?_⟩
     have : (s.kids.take (q + 1)).map Tre.kind = (s.kids.take q).map Tre.kind ++ [y.kind] := by
      rw [nH, VC, List.map_append, VJ]; rfl
     rw [this]
     simpa [eL] using g5
   · have hq : q = s.kids.length := by omega
     subst hq
     rw [oI] at g
     obtain ⟨x, hx, hxk, _⟩ := hs.lB
     have aaK : eh v5 (s.kids.map Tre.kind).length (eL (s.kids.map Tre.kind)) := by rw [List.length_map]; exact g.sl
     have hxt := iW x (fO hx)
     refine rv ?_
     refine RZ DL hx ?_
     cases sC : (decide ((0 : Int) < ((i : Nat) : Int)) && decide (x.kind = 1)) with
     | true =>
       simp only [aI, show (true == false) = false from rfl, aC, a7, aA, if_true, ah]
       refine cR (bad ?_ _ g.ex)
       cases VA : t.ok with
       | false => rfl
       | true => simp only [bR, c7] at sC; exact absurd (hxk ▸ sC.2) (SK VA hs (by omega))
     | false =>
       simp only [aI, dG, aC, bl, av]
       refine DL.nd hx (iL (Fm x hxt) ?_)
       simp only [c8, av, aA, bo, if_false, ah]
       have VY : mr x (s.kids.map Tre.kind) = false -> ak R (AV.int .i64 4) cu := fun Vq => by
        refine bad ?_ _ g.ex
        cases VA : t.ok with
        | false => rfl
        | true =>
          have := yE (EG VA hs) hs hx
          rw [Vq] at this; cases this
       cases hf : lj x with
       | false =>
         simp only [dt, aI, show (true == false) = false from rfl, aC, a7, aA, if_true, ah]
         refine cR (VY ?_)
         unfold mr; rw [hf]; rfl
       | true =>
         simp only [ca, aI, dG, aC, bl, av]
         refine Ie DL hx (HZ x) ?_
         refine iL (HL aaK (by simp; omega) x.kind) ?_
         simp only [c8, av, aA, bo, if_false, ah]
         cases Qj : oo x.kind (s.kids.map Tre.kind) with
         | false => exact cR (VY (by unfold mr; rw [hf, Qj]; rfl))
         | true =>
           refine dQ ?_
           rw [cg]
           refine ⟨aS (by omega) (by omega), t.flat.length - (i + 1), by omega, i + 1, rfl, rfl, by simp, by omega, g.ex, fun j s' x' hj dL gP => ?_⟩
           rcases eM j i with h | h
           · exact hN j s' x' h dL gP
           · have : j = i := by omega
             subst this
             rw [hx] at gP; cases gP
             rw [dL.inj hs]
             unfold mr; rw [hf, Qj]; rfl
 · have hi : i = t.flat.length := by omega
   subst hi
   have cF : t.ok = true := by
    have := zT (l := t.flat) _ [t] 0 (cX _) ⟨[], by simp⟩ (fun j s x _ hj hs hx => hN j s x (by simpa using hj) hs hx)
    simpa using this
   have AJ : qH t = if 60 < t.deep \/ 24 < t.kids.length then 5 else 0 := by unfold qH; rw [if_neg (by simp [nY, cF])]
   rw [AJ] at h
   clear AJ bad hN
   refine N5 BI (by omega) fun b8 cJ f8 m8 e3 => ?_
   have hDl := sv 0 t
   have UC := e2.trans e3
   simp only [bA]
   refine ⟨fun m w3 v8 v9 ae => ∃ j : Nat, m = t.flat.length - j /\ w3 = v3 /\ v8 = .ms b8 0 t.flat.length 1 3 /\ v9 = .int .i64 (j : Nat) /\ j <= t.flat.length /\ ae = cJ /\ ∀ j' d, j' < j -> (lN 0 t)[j']? = some d -> ¬ 60 < d, ⟨_, 0, rfl, rfl, rfl, rfl, by omega, rfl, fun j' d h => by omega⟩, ?_⟩
   rintro m w3 v8 v9 cu ⟨j, rfl, rfl, rfl, rfl, hj, rfl, hD⟩
   have DL := hv.pD UC
   rw [DL.len, ah]
   refine tN (fun aJ => ?_) fun fJ => ?_
   · have aJ : j < t.flat.length := by omega
     obtain ⟨d, hd⟩ : ∃ d, (lN 0 t)[j]? = some d := ⟨(lN 0 t)[j]'(by omega), by simp⟩
     rw [Aq]
     refine ⟨⟨by omega, by omega, rfl⟩, ?_⟩
     obtain ⟨r, hr⟩ := uv hd
     rw [fz m8, dR, Nat.mul_one, cr, hr, bM]
     refine rv (dk (fun h6 => ?_) fun h6 => ?_)
     · have : 60 < t.deep := (C5 t).1 ⟨d, fO hd, by omega⟩
       rw [if_pos (.inl this)] at h
       exact ak.mk (h _ UC)
     · rw [cg]
       refine ⟨aS (by omega) (by omega), t.flat.length - (j + 1), by omega, j + 1, rfl, rfl, rfl, by simp, aJ, rfl, fun j' d' Dq p4 => ?_⟩
       rcases eM j' j with h | h
       · exact hD j' d' h p4
       · have : j' = j := by omega
         subst this; rw [hd] at p4; cases p4; omega
   · have hj : j = t.flat.length := by omega
     subst hj
     have hnd : ¬ 60 < t.deep := fun h6 => by
      obtain ⟨d, h1, h2⟩ := (C5 t).2 h6
      obtain ⟨q, hq, DD⟩ := List.getElem_of_mem h1
      exact hD q d (by omega) (by rw [<- DD]; simp) h2
     refine DZ (i := 0) DL zC (by omega) fun dI v93 g5 => ?_
     have hlen : bz (some false) v93 = .val (.int .i64 t.kids.length) := g5.sl.len
     simp only [bA, hlen, ah]
     have e5 := UC.trans g5.ex
     refine rv (dk (fun h6 => ?_) fun h6 => ?_)
     · rw [if_pos (.inr (by omega))] at h
       exact ak.mk (h _ e5)
     · rw [if_neg (by omega)] at h
       exact ak.mk (h _ e5)
end Go.Rip
