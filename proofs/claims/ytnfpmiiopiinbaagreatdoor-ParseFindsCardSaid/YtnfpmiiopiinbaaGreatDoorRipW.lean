/- Lemmas for the proof: no conditions. -/
import Derived.Test.YtnfpmiiopiinbaaGreatDoorRipZz
import Derived.Test.YtnfpmiiopiinbaaGreatDoorRipV
import Derived.Test.YtnfpmiiopiinbaaGreatDoorRipF
set_option linter.unusedVariables false
set_option linter.unusedSimpArgs false
set_option linter.loopingSimpArgs false
namespace Go.Rip
open Go.Proofs Go.RowKit
def nQ (k : Int) (ks : List Int) : Bool := match et k with | some f => dp ks f.kids | none => false
theorem mH {k : Int} (h : k < 1 \/ 37 < k) : et k = none := by
 unfold et
 repeat rw [if_neg (by omega)]
section
variable {U : St} {R : cB -> St -> Prop} {v : AV} {ks : List Int} {c : Prop} [Decidable c] {q : Bool} {f : FuncId} {Kp : AV -> St -> Prop} {K' : AV -> St -> Prop} {Kp : AV -> St -> Prop}
theorem oF (hp : Pure K f [v] (.bool q)) (hk : K' (.bool (decide c && q)) U) :
 ad K (ar (.bool (decide c)) true) (av.val v) fun Ee => ad K (ar (.bool (decide c)) true) (av.enter f [Ee]) fun v91 => (aR (.bool (decide c)) v91 (.bool false)).wp K U K' Kp := by
 by_cases hc : c
 · simp only [hc, bS, aI, dw]
   refine dc (p6 hp ?_)
   simp only [az, if_true, ai]
   simpa [hc] using hk
 · simp only [hc, cm, aI, show (false == true) = false from rfl, aB, a8, az, bq, if_false, ai]
   simpa [hc] using hk
theorem xO {i : Int} {e : Nat} {p : Int -> Bool} {cb : Bool} (hv : eB v ks.length (eC ks)) (hp : ∀ k, Pure K f [.int .u8 k] (.bool (p k))) (hi : cb = true -> 0 <= i /\ i < ks.length) (hk : K' (.bool (cb && p (ks.getD i.toNat 0))) U) :
 ad K (ar (.bool cb) true) (av.val v) fun cH => ad K (ar (.bool cb) true) (aG (some (e, 1)) none cH (AV.int .i64 i)) fun v20 => ad K (ar (.bool cb) true) (aq (some (false, 1)) v20 U) fun v21 =>
  ad K (ar (.bool cb) true) (av.enter f [v21]) fun cn => (aR (.bool cb) cn (.bool false)).wp K U K' Kp := by
 cases cb with
 | true =>
   obtain ⟨h0, h1⟩ := hi rfl
   obtain ⟨j, rfl⟩ : ∃ j : Nat, i = j := ⟨i.toNat, by omega⟩
   have aJ : j < ks.length := by omega
   have hx : ks[j]? = some ks[j] := by simp [aJ]
   simp only [aI, dw]
   refine dc (CH hv hx (p6 (hp _) ?_))
   simp only [az, if_true, ai]
   have : ks.getD (j : Int).toNat 0 = ks[j] := by rw [ej, sa, hx]; rfl
   rw [this] at hk
   simpa using hk
 | false =>
   simp only [aI, show (false == true) = false from rfl, aB, a8, az, bq, if_false, ai]
   simpa using hk
theorem Jr {i c : Int} {e : Nat} {cb : Bool} {bt : BT} {lb : Bool} (hv : eB v ks.length (eC ks)) (hi : cb = true -> 0 <= i /\ i < ks.length) (hk : K' (.bool (cb && decide (ks.getD i.toNat 0 = c))) U) :
 ad K (ar (.bool cb) true) (av.val v) fun cH => ad K (ar (.bool cb) true) (aG (some (e, 1)) none cH (AV.int .i64 i)) fun v20 => ad K (ar (.bool cb) true) (aq (some (false, 1)) v20 U) fun v21 =>
  ad K (ar (.bool cb) true) (ak .eql bt lb v21 (.int .u8 c)) fun cn => (aR (.bool cb) cn (.bool false)).wp K U K' Kp := by
 cases cb with
 | true =>
   obtain ⟨h0, h1⟩ := hi rfl
   obtain ⟨j, rfl⟩ : ∃ j : Nat, i = j := ⟨i.toNat, by omega⟩
   have aJ : j < ks.length := by omega
   have hx : ks[j]? = some ks[j] := by simp [aJ]
   simp only [aI, dw]
   refine dc (CH hv hx ?_)
   rw [aW]
   refine dc ?_
   simp only [az, if_true, ai]
   have : ks.getD (j : Int).toNat 0 = ks[j] := by rw [ej, sa, hx]; rfl
   rw [this] at hk
   simpa using hk
 | false =>
   simp only [aI, show (false == true) = false from rfl, aB, a8, az, bq, if_false, ai]
   simpa using hk
theorem xN {b : Nat} {e : Nat} {p : Int -> Bool} {cb : Bool} (hv : eB v ks.length (eC ks)) (hl : ks.length <= 100000) (hp : ∀ k, Pure K f [.int .u8 k] (.bool (p k))) (hb : 0 < b) (hi : cb = true -> b <= ks.length) (hk : K' (.bool (cb && p (ks.getD (ks.length - b) 0))) U) :
 ad K (ar (.bool cb) true) (av.val v) fun v37 => ad K (ar (.bool cb) true) (av.val (.int .i64 ks.length)) fun ga => ad K (ar (.bool cb) true) (ak .sub (BT.mk false false false none false) true ga (AV.int .i64 (b : Nat))) fun iJ =>
  ad K (ar (.bool cb) true) (aG (some (e, 1)) none v37 iJ) fun v20 => ad K (ar (.bool cb) true) (aq (some (false, 1)) v20 U) fun v21 =>
  ad K (ar (.bool cb) true) (av.enter f [v21]) fun cn => (aR (.bool cb) cn (.bool false)).wp K U K' Kp := by
 cases cb with
 | true =>
   have hi := hi rfl
   have aJ : ks.length - b < ks.length := by omega
   have hx : ks[ks.length - b]? = some ks[ks.length - b] := by simp [aJ]
   simp only [aI, dw]
   refine dc (dc ?_)
   rw [fx, er]
   refine hC ⟨aZ (by omega) (by omega), ?_⟩
   rw [aw, show (ks.length : Int) - b = ((ks.length - b : Nat) : Int) by omega]
   refine CH hv hx (p6 (hp _) ?_)
   simp only [az, if_true, ai]
   have : ks.getD (ks.length - b) 0 = ks[ks.length - b] := by rw [sa, hx]; rfl
   rw [this] at hk
   simpa using hk
 | false =>
   simp only [aI, show (false == true) = false from rfl, aB, a8, az, bq, if_false, ai]
   simpa using hk
theorem Bl {b : Nat} {e : Nat} {cc : Int} (hv : eB v ks.length (eC ks)) (hl : ks.length <= 100000) (hb : 0 < b) (hi : c -> b <= ks.length) (hk : K' (.bool (decide c && (ks.take (ks.length - b)).all fun k => decide (k = cc))) U) :
 ad K (ar (.bool (decide c)) true) (av.val v) fun v30 => ad K (ar (.bool (decide c)) true) (av.val (.int .i64 ks.length)) fun v31 => ad K (ar (.bool (decide c)) true) (ak .sub (BT.mk false false false none false) true v31 (AV.int .i64 (b : Nat))) fun fF =>
  ad K (ar (.bool (decide c)) true) (eE false (some (e, 1)) v30 none (some fF)) fun dL => ad K (ar (.bool (decide c)) true) (av.enter 140 [dL, (AV.int .u8 cc)]) fun fG => (aR (.bool (decide c)) fG (.bool false)).wp K U K' Kp := by
 by_cases hc : c
 · have hi := hi hc
   simp only [hc, bS, aI, dw]
   refine dc (dc ?_)
   rw [fx, er]
   refine hC ⟨aZ (by omega) (by omega), ?_⟩
   rw [aw, show (ks.length : Int) - b = ((ks.length - b : Nat) : Int) by omega]
   rcases hv with ⟨h0, _, _⟩ | ⟨cp, rfl⟩
   · omega
   · rw [vS, gB, ij]
     refine hC ⟨by omega, ?_⟩
     rw [aw]
     have nc : eB (.vec (((ks.length - b : Nat) : Int).toNat - (0 : Int).toNat) (pM cp (some (.int .i64 ((ks.length - b : Nat) : Int)))) (((eC ks).take (((ks.length - b : Nat) : Int).toNat * 1)).drop ((0 : Int).toNat * 1))) (ks.take (ks.length - b)).length (eC (ks.take (ks.length - b))) := by
      refine .inr ⟨pM cp (some (.int .i64 ((ks.length - b : Nat) : Int))), ?_⟩
      rw [ej]
      simp [eC, List.map_take]
     refine p6 (Gr nc (by simp; omega) cc) ?_
     simp only [az, if_true, ai]
     simpa [hc] using hk
 · simp only [hc, cm, aI, show (false == true) = false from rfl, aB, a8, az, bq, if_false, ai]
   simpa [hc] using hk
end
theorem nA {c : qf} {p : Int -> Bool} (hp : c.is = p) {lo hi n : Nat} {ks : List Int} (h : n = ks.length) : dp ks [⟨c, lo, hi⟩] = (decide (lo <= n /\ n <= hi) && ks.all p) := by rw [Rt, hp, h]
theorem getD_take : ∀ (l : List Int) (i : Nat), i < l.length -> l.drop i = l.getD i 0 :: l.drop (i + 1) := fun l i h => by
 rw [fN h, sa, iZ h]; rfl
theorem Ny {ks : List Int} (hl : ks.length <= 900) : dp ks [⟨.kind 5, 0, 900⟩, ⟨.base, 1, 1⟩, ⟨.term, 1, 1⟩] = (((decide (2 <= ks.length) && (ks.take (ks.length - 2)).all fun k => decide (k = 5)) && jQ (ks.getD (ks.length - 2) 0)) && fp (ks.getD (ks.length - 1) 0)) := by
 have := wT ⟨.kind 5, 0, 900⟩ [.base, .term] ks (by simp; omega)
 simp only [dy, gP, jy, oL, ck, Nat.reduceAdd] at this
 rw [this]
 by_cases h : 2 <= ks.length
 · rw [getD_take ks (ks.length - 2) (by omega), show ks.length - 2 + 1 = ks.length - 1 by omega, getD_take ks (ks.length - 1) (by omega), List.drop_of_length_le (show ks.length <= ks.length - 1 + 1 by omega)]
   have e1 := ir .base [.term] (ks.getD (ks.length - 2) 0) [ks.getD (ks.length - 1) 0] rfl
   have e2 := ir .term [] (ks.getD (ks.length - 1) 0) [] rfl
   simp only [dy, gP] at e1 e2
   rw [e1, e2]
   simp only [dp, List.isEmpty_nil, Bool.and_true, Bool.and_assoc, qf.is]
   rfl
 · simp [h]
theorem Ue {ks : List Int} (hl : ks.length <= 900) : dp ks [⟨.kind 37, 1, 900⟩, ⟨.term, 1, 1⟩] = ((decide (2 <= ks.length) && (ks.take (ks.length - 1)).all fun k => decide (k = 37)) && fp (ks.getD (ks.length - 1) 0)) := by
 have := wT ⟨.kind 37, 1, 900⟩ [.term] ks (by simp; omega)
 simp only [dy, gP, jy, oL, ck, Nat.reduceAdd] at this
 rw [this]
 by_cases h : 2 <= ks.length
 · rw [getD_take ks (ks.length - 1) (by omega), List.drop_of_length_le (show ks.length <= ks.length - 1 + 1 by omega)]
   have e2 := ir .term [] (ks.getD (ks.length - 1) 0) [] rfl
   simp only [dy, gP] at e2
   rw [e2]
   simp only [dp, List.isEmpty_nil, Bool.and_true, Bool.and_assoc, qf.is]
   rfl
 · simp [h]
theorem Ru {ks : List Int} (hl : ks.length <= 900) : dp ks [⟨.term, 1, 1⟩, ⟨.kind 37, 1, 1⟩, ⟨.term, 1, 1⟩] = (((decide (ks.length = 3) && fp (ks.getD 0 0)) && decide (ks.getD 1 0 = 37)) && fp (ks.getD 2 0)) := by
 by_cases h : ks.length = 3
 · match ks, h with
   | [a, b, c], _ =>
     have e1 := ir .term [.kind 37, .term] a [b, c] rfl
     have e2 := ir (.kind 37) [.term] b [c] rfl
     have e3 := ir .term [] c [] rfl
     simp only [dy, gP] at e1 e2 e3
     rw [e1, e2, e3]
     simp [dp, qf.is, Bool.and_assoc]
 · have := mU [.term, .kind 37, .term] ks
   simp only [dy, gP, jy, oL, ck, Nat.reduceAdd] at this
   cases hf : dp ks [⟨.term, 1, 1⟩, ⟨.kind 37, 1, 1⟩, ⟨.term, 1, 1⟩] with
   | true => exact absurd (this hf) h
   | false => simp [h]
end Go.Rip
namespace Go.Rip
open Go.Proofs Go.RowKit
section
variable {U : St} {bt : BT} {l : Bool} {k : IntKind} {a b : Int} {K' : AV -> St -> Prop} {Kp : AV -> St -> Prop}
theorem ef (h : K' (.bool (decide (a = b))) U) : (ak .eql bt l (.int k a) (.int k b)).wp K U K' Kp := by rw [aW]; exact h
theorem qT (h : K' (.bool (decide (b <= a))) U) : (ak .geq bt l (.int k a) (.int k b)).wp K U K' Kp := by rw [dR]; exact h
theorem tc (h : K' (.bool (decide (b < a))) U) : (ak .gtr bt l (.int k a) (.int k b)).wp K U K' Kp := by rw [dD]; exact h
theorem cG {A B : Prop} (h : A) : ao (.bool true) A B := by rw [bh]; exact h
theorem du {A B : Prop} (h : B) : ao (.bool false) A B := by rw [aV]; exact h
theorem dj {p : Prop} [Decidable p] {A B : Prop} (h : p -> A) (h' : ¬ p -> B) : ao (.bool (decide p)) A B := by rw [aX]; exact ⟨h, h'⟩
end
theorem Hd {v : AV} {ks : List Int} (hv : eB v ks.length (eC ks)) (hl : ks.length <= 900) (k : Int) : Pure K 72 [.int .u8 k, v] (.bool (nQ k ks)) := by
 intro U R hR
 refine OI ?_
 unfold QB
 have hlen : bB (some false) v = .val (.int .i64 ks.length) := hv.len
 have uF : ks.length <= 100000 := by omega
 rw [hlen, ai]
 refine ef ?_
 have out : ∀ {b : Bool}, nQ k ks = b -> aj R (.bool b) U := fun h => by rw [h] at hR; exact aj.mk hR
 refine dj (fun h1 => ?_) fun h1 => ?_
 · refine (Cg hv uF).go (out ?_)
   rw [h1]
   show dp ks [⟨.item, 0, 900⟩] = _
   rw [nA (p := oE) rfl rfl, decide_eq_true (by omega), Bool.true_and]
 intro j hj
 have BV : k = 2 \/ k = 5 -> j v (.int .i64 ks.length) (.int .u8 k) (.bool true) U := fun hk => by
  refine hj _ _ _ _ _ ?_
  refine cG ?_
  refine ef ?_
  refine xO hv EM (fun h => by rw [cP] at h; omega) (out ?_)
  have hf : et k = some ⟨true, false, false, [⟨.type, 1, 1⟩]⟩ := by rcases hk with rfl | rfl <;> rfl
  unfold nQ
  rw [hf]
  show dp ks [⟨.type, 1, 1⟩] = _
  rw [nA (p := p8) rfl rfl]
  by_cases hn : ks.length = 1
  · match ks, hn with
    | [a], _ => simp
  · rw [decide_eq_false (by omega), decide_eq_false (by omega), Bool.false_and, Bool.false_and]
 have Ye : k ≠ 2 -> k ≠ 5 -> j v (.int .i64 ks.length) (.int .u8 k) (.bool false) U := fun FG hn5 => by
  refine hj _ _ _ _ _ ?_
  refine du ?_
  intro j1 uE
  have BW : k = 3 \/ k = 4 -> j1 v (.int .i64 ks.length) (.int .u8 k) (.bool true) U := fun hk => by
   refine uE _ _ _ _ _ ?_
   refine cG ?_
   refine qT ?_
   refine Bl (b := 2) hv uF (by omega) (fun h => by omega) ?_
   refine xN (b := 2) hv uF o0 (by omega) (fun h => by rw [bN, cP] at h; omega) ?_
   refine xN (b := 1) hv uF kW (by omega) (fun h => by simp only [bN, cP] at h; omega) (out ?_)
   have hf : et k = some ⟨true, false, false, [⟨.kind 5, 0, 900⟩, ⟨.base, 1, 1⟩, ⟨.term, 1, 1⟩]⟩ := by rcases hk with rfl | rfl <;> rfl
   unfold nQ
   rw [hf]
   show dp ks [⟨.kind 5, 0, 900⟩, ⟨.base, 1, 1⟩, ⟨.term, 1, 1⟩] = _
   rw [Ny hl]
   have e2 : decide (((2 : Nat) : Int) <= (ks.length : Int)) = decide (2 <= ks.length) := by rw [decide_eq_decide]; omega
   simp only [<- e2]; rfl
  have Yf : k ≠ 3 -> k ≠ 4 -> j1 v (.int .i64 ks.length) (.int .u8 k) (.bool false) U := fun hn3 hn4 => by
   refine uE _ _ _ _ _ ?_
   refine du ?_
   refine ef (dj (fun h => ?_) fun hn8 => ?_)
   · refine qT ?_
     refine oF (Cf hv uF) (out ?_)
     rw [h]
     show dp ks [⟨.base, 2, 900⟩] = _
     rw [nA (p := jQ) rfl rfl]
     congr 1; rw [decide_eq_decide]; omega
   refine ef (dj (fun h => ?_) fun hn9 => ?_)
   · refine qT ?_
     refine oF (nO hv uF) (out ?_)
     rw [h]
     show dp ks [⟨.term, 2, 900⟩] = _
     rw [nA (p := fp) rfl rfl]
     congr 1; rw [decide_eq_decide]; omega
   refine ef (dj (fun h => ?_) fun UT => ?_)
   · refine ef ?_
     refine oF (nO hv uF) (out ?_)
     rw [h]
     show dp ks [⟨.term, 3, 3⟩] = _
     rw [nA (p := fp) rfl rfl]
     congr 1; rw [decide_eq_decide]; omega
   intro j2 ov
   have X6 : et k = some ⟨iM k, false, false, [⟨.term, 2, 2⟩]⟩ -> j2 v (.int .i64 ks.length) (.int .u8 k) (.bool true) U := fun hf => by
    refine ov _ _ _ _ _ ?_
    refine cG ?_
    refine ef ?_
    refine oF (nO hv uF) (out ?_)
    unfold nQ
    rw [hf]
    show dp ks [⟨.term, 2, 2⟩] = _
    rw [nA (p := fp) rfl rfl]
    congr 1; rw [decide_eq_decide]; omega
   have Yg : k ≠ 11 -> k ≠ 13 -> k ≠ 15 -> k ≠ 17 -> k ≠ 18 -> ¬ (20 <= k /\ k <= 24) -> j2 v (.int .i64 ks.length) (.int .u8 k) (.bool false) U := fun m11 m13 m15 m17 m18 m20 => by
    refine ov _ _ _ _ _ ?_
    refine du ?_
    intro j3 FB
    have o1 : ∀ f : Ax, et k = some f -> f.kids = [⟨.term, 1, 1⟩] -> j3 v (.int .i64 ks.length) (.int .u8 k) (.bool true) U := fun f hf PK => by
     refine FB _ _ _ _ _ ?_
     refine cG ?_
     refine ef ?_
     refine oF (nO hv uF) (out ?_)
     unfold nQ
     rw [hf]
     show dp ks f.kids = _
     rw [PK, nA (p := fp) rfl rfl]
     congr 1; rw [decide_eq_decide]; omega
    have Yh : k ≠ 12 -> k ≠ 14 -> k ≠ 16 -> k ≠ 19 -> k ≠ 25 -> j3 v (.int .i64 ks.length) (.int .u8 k) (.bool false) U := fun m12 m14 m16 m19 m25 => by
     refine FB _ _ _ _ _ ?_
     refine du ?_
     refine ef (dj (fun h => ?_) fun m34 => ?_)
     · refine qT ?_
       refine oF (Em hv uF) (out ?_)
       rw [h]
       show dp ks [⟨.arg, 1, 900⟩] = _
       rw [nA (p := jP) rfl rfl]
       congr 1; rw [decide_eq_decide]; omega
     refine ef (dj (fun h => ?_) fun m35 => ?_)
     · refine qT ?_
       refine Bl (b := 1) hv uF (by omega) (fun h => by omega) ?_
       refine xN (b := 1) hv uF kW (by omega) (fun h => by simp only [bN, cP] at h; omega) (out ?_)
       rw [h]
       show dp ks [⟨.kind 37, 1, 900⟩, ⟨.term, 1, 1⟩] = _
       rw [Ue hl]
       have e2 : decide (((2 : Nat) : Int) <= (ks.length : Int)) = decide (2 <= ks.length) := by rw [decide_eq_decide]; omega
       simp only [<- e2]; rfl
     refine ef (dj (fun h => ?_) fun m36 => ?_)
     · refine ef ?_
       refine xO hv kW (fun h => by rw [cP] at h; omega) ?_
       refine Jr hv (fun h => by simp only [bN, cP] at h; omega) ?_
       refine xO hv kW (fun h => by simp only [bN, cP] at h; omega) (out ?_)
       rw [h]
       show dp ks [⟨.term, 1, 1⟩, ⟨.kind 37, 1, 1⟩, ⟨.term, 1, 1⟩] = _
       rw [Ru hl]
       have e2 : decide ((ks.length : Int) = 3) = decide (ks.length = 3) := by rw [decide_eq_decide]; omega
       simp only [e2]; rfl
     intro j4 YV
     have X7 : et k = some ⟨(iM k), oY k, false, []⟩ -> j4 (.int .i64 ks.length) (.bool true) U := fun hf => by
      refine YV _ _ _ ?_
      refine cG ?_
      refine ef ?_
      refine out ?_
      unfold nQ
      rw [hf]
      show dp ks [] = _
      rw [dp, lL, List.isEmpty_iff, cP]
      constructor
      · rintro rfl; rfl
      · intro h; exact qL.1 (by omega)
     have last : et k = none -> j4 (.int .i64 ks.length) (.bool false) U := fun hf => by
      refine YV _ _ _ ?_
      refine du ?_
      refine out ?_
      unfold nQ
      rw [hf]
     have Jq : ∀ b, b = true -> et k = some ⟨(iM k), oY k, false, []⟩ -> j4 (.int .i64 ks.length) (.bool b) U := fun b hb h => by subst hb; exact X7 h
     have X5 : ∀ b, b = false -> et k = none -> j4 (.int .i64 ks.length) (.bool b) U := fun b hb h => by subst hb; exact last h
     iterate 10
      refine ef (dj (fun h => Jq _ (by simpa using h) (by rw [h]; rfl)) fun _ => ?_)
     refine ef ?_
     by_cases h : k = 37
     · exact Jq _ (by simpa using h) (by rw [h]; rfl)
     · exact X5 _ (by simpa using h) (mH (by omega))
    simp only [aW, ai, aX]
    refine ⟨fun h => ?_, fun m12 => ⟨fun h => ?_, fun m14 => ⟨fun h => ?_, fun m16 => ⟨fun h => ?_, fun m19 => ?_⟩⟩⟩⟩
    · simp only [h, bS]; rw [h] at o1; exact o1 _ rfl rfl
    · simp only [h, bS]; rw [h] at o1; exact o1 _ rfl rfl
    · simp only [h, bS]; rw [h] at o1; exact o1 _ rfl rfl
    · simp only [h, bS]; rw [h] at o1; exact o1 _ rfl rfl
    · by_cases h : k = 25
      · simp only [h, bS]; rw [h] at o1; exact o1 _ rfl rfl
      · simp only [h, cm]; exact Yh m12 m14 m16 m19 h
   have mL : ∀ b, b = true -> et k = some ⟨iM k, false, false, [⟨.term, 2, 2⟩]⟩ -> j2 v (.int .i64 ks.length) (.int .u8 k) (.bool b) U := fun b hb h => by subst hb; exact X6 h
   refine ef (dj (fun h => mL _ (by simpa using h) (by rw [h]; rfl)) fun m11 => ?_)
   refine ef (dj (fun h => mL _ (by simpa using h) (by rw [h]; rfl)) fun m13 => ?_)
   refine ef (dj (fun h => mL _ (by simpa using h) (by rw [h]; rfl)) fun m15 => ?_)
   refine ef (dj (fun h => mL _ (by simpa using h) (by rw [h]; rfl)) fun m17 => ?_)
   refine ef (dj (fun h => mL _ (by simpa using h) (by rw [h]; rfl)) fun m18 => ?_)
   refine ef (dj (fun h => mL _ (by simpa using h) (by rw [h]; rfl)) fun m20 => ?_)
   refine ef (dj (fun h => mL _ (by simpa using h) (by rw [h]; rfl)) fun m21 => ?_)
   refine ef (dj (fun h => mL _ (by simpa using h) (by rw [h]; rfl)) fun m22 => ?_)
   refine ef (dj (fun h => mL _ (by simpa using h) (by rw [h]; rfl)) fun m23 => ?_)
   refine ef ?_
   by_cases h : k = 24
   · exact mL _ (by simpa using h) (by rw [h]; rfl)
   · simp only [h, cm]; exact Yg m11 m13 m15 m17 m18 (by omega)
  refine ef (dj (fun h => ?_) fun m3 => ?_)
  · simp only [h, bS]; rw [h] at BW; exact BW (.inl rfl)
  · refine ef ?_
    by_cases h : k = 4
    · simp only [h, bS]; rw [h] at BW; exact BW (.inr rfl)
    · simp only [h, cm]; exact Yf m3 h
 refine ef (dj (fun h => ?_) fun m2 => ?_)
 · simp only [h, bS]; rw [h] at BV; exact BV (.inl rfl)
 · refine ef ?_
   by_cases h : k = 5
   · simp only [h, bS]; rw [h] at BV; exact BV (.inr rfl)
   · simp only [h, cm]; exact Ye m2 h
def kT (x : Nd) : Bool := (iM x.kind == decide (x.text ≠ [])) && (!decide (x.text ≠ []) || iC x.text) && (if oY x.kind then gS x.n else decide (x.n = 0)) && (if x.kind = 12 then gS x.m else decide (x.m = 0))
theorem BJ : ∀ n : Fin 38, (match et ((n.val : Nat) : Int) with | some f => f.text == iM (n.val : Nat) && f.n == oY (n.val : Nat) && f.m == decide (((n.val : Nat) : Int) = 12) | none => true) = true := by decide +kernel
theorem CF {k : Int} {f : Ax} (h : et k = some f) : f.text = iM k /\ f.n = oY k /\ f.m = decide (k = 12) := by
 have hk : 1 <= k /\ k <= 37 := by
  by_cases h1 : k < 1 \/ 37 < k
  · rw [mH h1] at h; cases h
  · omega
 obtain ⟨n, rfl⟩ : ∃ n : Nat, k = n := ⟨k.toNat, by omega⟩
 have := BJ ⟨n, by omega⟩
 simp only [h, bN, beq_iff_eq] at this
 exact ⟨this.1.1, this.1.2, this.2⟩
theorem AK {x : Nd} {f : Ax} (h : et x.kind = some f) : kT x = lG x f := by
 obtain ⟨h1, h2, h3⟩ := CF h
 have z : gS 0 = true := by simp [gS]
 unfold kT lG
 rw [<- h1, <- h2]
 have hm : (if x.kind = 12 then gS x.m else decide (x.m = 0)) = (if f.m = true then gS x.m else decide (x.m = 0)) := by
  rw [h3]; by_cases h : x.kind = 12 <;> simp [h]
 rw [hm]
 have e0 : (x.text != []) = decide (x.text ≠ []) := by
  by_cases h : x.text = [] <;> simp [h]
 rw [e0]
 by_cases ht : x.text = []
 · have : iC [] = false := by decide
   cases f.text <;> cases f.n <;> cases f.m <;> by_cases hn : x.n = 0 <;> by_cases IS : x.m = 0 <;> simp [ht, hn, IS, z, this]
 · cases f.text <;> cases f.n <;> cases f.m <;> by_cases hn : x.n = 0 <;> by_cases IS : x.m = 0 <;> simp [ht, hn, IS, z]
end Go.Rip
namespace Go.Rip
open Go.Proofs Go.RowKit
theorem jc {f : FuncId} {args : List AV} {x : AV} {kq : AV -> Prop} (h : Pure K f args x) (hk : kq x) : aC K (av.enter f args) kq := ⟨x, h, hk⟩
theorem kz {b o k : Nat} {kq : AV -> Prop} (h : kq (.box b (o + k))) : aC K (ag (some k) (.box b o)) kq := h
theorem Ui {b o k : Nat} {kq : AV -> Prop} (h : kq (.box b (o + k))) : ad K (.bool true) (ag (some k) (.box b o)) kq := h
theorem CI {U : St} {b o : Nat} {L l : List AV} {x : AV} {kq : AV -> Prop} (hb : U.box b = some L) (hd : L.drop o = x :: l) (h : kq x) : ad K (.bool true) (aq (some (false, 1)) (.box b o) U) kq := by rw [ld hb, hd]; exact h
theorem dP {U : St} {b o : Nat} {L l : List AV} {x : AV} {kq : AV -> Prop} (hb : U.box b = some L) (hd : L.drop o = x :: l) (h : kq x) : aC K (aq (some (false, 1)) (.box b o) U) kq := by rw [ld hb, hd]; exact h
theorem eG {U τ : St} {b o : Nat} {L l : List AV} {x : AV} {K' : AV -> St -> Prop} {Kp : AV -> St -> Prop} (hb : U.box b = some L) (hd : L.drop o = x :: l) (h : K' x τ) : (aq (some (false, 1)) (.box b o) U).wp K τ K' Kp := by rw [ld hb, hd]; exact h
theorem EB (x : Nd) (hs : x.text.length <= 100000) : Pure K 71 [.agg (cT x)] (.bool (kT x)) := by
 refine Pure.of rfl rfl (fun U => rfl) fun R hR => ?_
 refine OH ?_
 unfold QA
 rw [eA rfl]
 intro b hb
 have m : ((bD ⟨.e, 0⟩).new b (.box (ax (.agg (cT x))))).box b = some (cT x) := aL
 generalize (bD _).new b _ = U at *
 clear hb
 have out : ∀ {b : Bool}, kT x = b -> aj R (.bool b) U := fun h => by rw [h] at hR; exact aj.mk (hR _)
 refine kz (dP m rfl (jc (IB _) ?_))
 refine kz (dP m rfl ?_)
 rw [jt, aw, uS, aw]
 have hw : (!decide (x.text = w_)) = decide (x.text ≠ []) := by
  by_cases h : x.text = [] <;> simp [h, w_]
 rw [hw]
 have rest : (iM x.kind != decide (x.text ≠ [])) = false -> (decide (x.text ≠ []) && !iC x.text) = false ->
  (ag (some 0) (.box b 0)).wp K U (fun v21 U =>
  (aq (some (false, 1)) v21 U).wp K U (fun cn U =>
  af K 136 [cn] U (au (fun cX U =>
  ad K (ar cX true) (ag (some 2) (.box b 0)) (fun ek =>
  ad K (ar cX true) (aq (some (false, 1)) ek U) (fun dK =>
  ad K (ar cX true) (av.enter 137 [dK]) (fun dx =>
  ad K (ar cX true) (fo .not dx) (fun v28 =>
  (aR cX v28 (AV.bool false)).wp K U (fun cz U =>
  ad K (ar cz false) (ag (some 0) (.box b 0)) (fun v31 =>
  ad K (ar cz false) (aq (some (false, 1)) v31 U) (fun fF =>
  ad K (ar cz false) (av.enter 136 [fF]) (fun dL =>
  ad K (ar cz false) (fo .not dL) (fun fG =>
  ad K (ar cz false) (av.val fG) (fun eF =>
  ad K (ar eF true) (ag (some 2) (.box b 0)) (fun eX =>
  ad K (ar eF true) (aq (some (false, 1)) eX U) (fun v37 =>
  ad K (ar eF true) (ak .neq (BT.mk false false false none false) true v37 (AV.int .i64 0)) (fun ga =>
  ad K (ar cz false) (aR eF ga (AV.bool false)) (fun iJ =>
  (aR cz (AV.bool true) iJ).wp K U (fun v40 U =>
  ao v40 (
   aj R (AV.bool false) U) (
   (ag (some 0) (.box b 0)).wp K U (fun jE U =>
   (aq (some (false, 1)) jE U).wp K U (fun j5 U =>
   (ak .eql (BT.mk false false false none false) true j5 (AV.int .u8 12)).wp K U (fun eo U =>
   ad K (ar eo true) (ag (some 3) (.box b 0)) (fun jX =>
   ad K (ar eo true) (aq (some (false, 1)) jX U) (fun v46 =>
   ad K (ar eo true) (av.enter 137 [v46]) (fun lQ =>
   (aR eo lQ (AV.bool false)).wp K U (fun gV U =>
   ad K (ar gV false) (ag (some 0) (.box b 0)) (fun lx =>
   ad K (ar gV false) (aq (some (false, 1)) lx U) (fun v51 =>
   ad K (ar gV false) (ak .neq (BT.mk false false false none false) true v51 (AV.int .u8 12)) (fun j6 =>
   ad K (ar gV false) (av.val j6) (fun v53 =>
   ad K (ar v53 true) (ag (some 3) (.box b 0)) (fun lR =>
   ad K (ar v53 true) (aq (some (false, 1)) lR U) (fun iX =>
   ad K (ar v53 true) (ak .eql (BT.mk false false false none false) true iX (AV.int .i64 0)) (fun mQ =>
   ad K (ar gV false) (aR v53 mQ (AV.bool false)) (fun ly =>
   (aR gV (AV.bool true) ly).wp K U (fun lz U =>
   aj R lz U) (aa R)))))))))) (aa R))))) (aa R)) (aa R)) (aa R))) (aa R))))))))))) (aa R)))))) (aa R))) (aa R)) (aa R) := by
  intro h1 h2
  have qs : kT x = ((if oY x.kind then gS x.n else decide (x.n = 0)) && (if x.kind = 12 then gS x.m else decide (x.m = 0))) := by
   unfold kT
   cases ha : iM x.kind <;> cases hb : decide (x.text ≠ []) <;> cases hc : iC x.text <;> simp_all
  rw [qs] at out
  clear qs hR hw
  simp only [aU, ai, ck]
  refine eG m rfl ((va _).go ?_)
  have second : (if oY x.kind then gS x.n else decide (x.n = 0)) = true -> (aq (some (false, 1)) (.box b 0) U).wp K U (fun j5 U =>
   (ak .eql (BT.mk false false false none false) true j5 (AV.int .u8 12)).wp K U (fun eo U =>
   ad K (ar eo true) (.val (.box b 3)) (fun jX =>
   ad K (ar eo true) (aq (some (false, 1)) jX U) (fun v46 =>
   ad K (ar eo true) (av.enter 137 [v46]) (fun lQ =>
   (aR eo lQ (AV.bool false)).wp K U (fun gV U =>
   ad K (ar gV false) (.val (.box b 0)) (fun lx =>
   ad K (ar gV false) (aq (some (false, 1)) lx U) (fun v51 =>
   ad K (ar gV false) (ak .neq (BT.mk false false false none false) true v51 (AV.int .u8 12)) (fun j6 =>
   ad K (ar gV false) (av.val j6) (fun v53 =>
   ad K (ar v53 true) (.val (.box b 3)) (fun lR =>
   ad K (ar v53 true) (aq (some (false, 1)) lR U) (fun iX =>
   ad K (ar v53 true) (ak .eql (BT.mk false false false none false) true iX (AV.int .i64 0)) (fun mQ =>
   ad K (ar gV false) (aR v53 mQ (AV.bool false)) (fun ly =>
   (aR gV (AV.bool true) ly).wp K U (fun lz U =>
   aj R lz U) (aa R)))))))))) (aa R))))) (aa R)) (aa R) := by
   intro h3
   rw [h3, Bool.true_and] at out
   refine eG m rfl (ef ?_)
   by_cases hk : x.kind = 12
   · simp only [hk, bS, aI, dw]
     refine dc (CI m rfl (p6 (yT _) ?_))
     simp only [az, if_true, ai]
     rw [if_pos hk] at out
     cases hm : gS x.m with
     | true =>
       simp only [aI, show (true == false) = false from rfl, aB, a8, gw, az, if_true, ai]
       exact out hm
     | false =>
       simp only [aI, dw]
       refine dc (CI m rfl ?_)
       simp only [cT, List.drop, ct, hk, bS, bV, aB, bp, aw, aI, show (false == true) = false from rfl, a8, az, bq, if_false, ai]
       exact out hm
   · rw [if_neg hk] at out
     simp only [hk, cm, aI, show (false == true) = false from rfl, aB, a8, az, bq, if_false, ai, dw, bp, aw]
     refine dP m rfl ?_
     simp only [ct, hk, cm, da, aw, aI, dw, aB, bp]
     refine dP m rfl ?_
     simp only [aW, aw, az, if_true, bq, if_false, ai]
     exact out rfl
  cases hn : oY x.kind with
  | true =>
    rw [hn] at second out
    simp only [if_true] at second out
    simp only [aI, dw]
    refine dc (CI m rfl (p6 (yT _) ?_))
    simp only [cU, aB, bp, aw, az, if_true, ai]
    cases hv : gS x.n with
    | false =>
      simp only [da, aI, show (true == false) = false from rfl, aB, a8, gw, az, if_true, ai]
      refine cG (out ?_)
      rw [hv]; rfl
    | true =>
      simp only [bV, aI, dw]
      simp only [aB, bp, aw]
      refine dP m rfl (jc (va _) ?_)
      rw [hn]
      simp only [cU, bV, aw, aI, show (false == true) = false from rfl, aB, a8, az, bq, if_false, ai]
      exact du (second hv)
  | false =>
    rw [hn] at second out
    simp only [bq, if_false] at second out
    simp only [aI, show (false == true) = false from rfl, aB, a8, az, bq, if_false, ai, dw, bp, aw]
    refine dP m rfl (jc (va _) ?_)
    rw [hn]
    simp only [cU, da, aw, aI, dw, aB, bp]
    refine dP m rfl ?_
    simp only [ct, aw, az, if_true, bq, if_false, ai]
    by_cases h0 : x.n = 0
    · simp only [h0, bS, bV]
      exact du (second (by simp [h0]))
    · simp only [h0, cm, da]
      exact cG (out (by simp [h0]))
 have YP : (iM x.kind != decide (x.text ≠ [])) = true \/ (decide (x.text ≠ []) && !iC x.text) = true -> kT x = false := fun h => by
  unfold kT
  cases ha : iM x.kind <;> cases hb : decide (x.text ≠ []) <;> cases hc : iC x.text <;> simp_all
 cases h1 : (iM x.kind != decide (x.text ≠ [])) with
 | true =>
   simp only [aI, show (true == false) = false from rfl, aB, a8, gw, az, if_true, aw]
   exact cG (out (YP (.inl h1)))
 | false =>
   simp only [aI, dw, aU, aB, bp, aw, ck]
   refine dP m rfl ?_
   rw [jt, aw, hw]
   cases h0 : decide (x.text ≠ []) with
   | false =>
     simp only [aI, show (false == true) = false from rfl, aB, a8, aw, az, bq, if_false]
     exact du (rest h1 (by rw [h0]; rfl))
   | true =>
     simp only [aI, dw, aB, bp, aw]
     refine dP m rfl (jc (EL _ hs) ?_)
     simp only [cU, aw, az, if_true, bq, if_false]
     cases hn : iC x.text with
     | true => exact du (rest h1 (by rw [hn]; simp))
     | false => exact cG (out (YP (.inr (by rw [h0, hn]; rfl))))
end Go.Rip
namespace Go.Rip
open Go.Proofs Go.RowKit
def l8 (x : Nd) (ks : List Int) : Bool := kT x && nQ x.kind ks
theorem DA {k : Int} {t : bf} {n m a : Int} {ks : List Tre} {x : Nd} (h1 : x.kind = k) (h2 : x.text = t) (h3 : x.n = n) (h4 : x.m = m) : (Tre.mk k t n m a ks).ok = (l8 x (ks.map Tre.kind) && Tre.ry ks) := by
 rw [Tre.ok]
 congr 1
 unfold l8 nQ
 rw [h1]
 cases hf : et k with
 | none => simp
 | some f =>
   rw [AK (f := f) (by rw [h1]; exact hf)]
   congr 1
   unfold lG
   simp only [h2, h3, h4]
theorem uk {l : List Nd} : ∀ {ts : List Tre} {p q eO : Nat}, iY l p ts -> (bI p ts)[q]? = some eO -> ∃ u, ts[q]? = some u /\ dW l eO u
 | [], p, q, eO, h, hk => by simp [bI] at hk
 | t :: ts, p, 0, eO, h, hk => by simp [bI] at hk; subst hk; exact ⟨t, rfl, h.head⟩
 | t :: ts, p, q + 1, eO, h, hk => by
   simp only [bI, List.getElem?_cons_succ] at hk
   obtain ⟨u, h1, h2⟩ := uk h.tail hk
   exact ⟨u, by simpa using h1, h2⟩
theorem y9 {l : List Nd} : ∀ (N : Nat) (ts : List Tre) (p : Nat), (Tre.bE ts).length <= N -> iY l p ts -> (∀ j s x, p <= j -> j < p + (Tre.bE ts).length -> dW l j s -> l[j]? = some x -> l8 x (s.kids.map Tre.kind) = true) -> Tre.ry ts = true
 | _, [], _, _, _, _ => by simp
 | 0, t :: ts, _, hN, _, _ => by have := t.cR; simp only [Tre.c6, fX] at hN; omega
 | N + 1, .mk k tx n m a ks :: ts, p, hN, h, bw => by
   have CQ : (Tre.mk k tx n m a ks).flat.length = (Tre.bE ks).length + 1 := ki (.mk k tx n m a ks)
   simp only [Tre.c6, fX] at hN bw
   rw [Tre.tQ]
   obtain ⟨x, hx, h1, h2, h3, h4, h5, h6⟩ := h.head.lD
   rw [DA (k := k) (t := tx) (n := n) (m := m) (x := x) h1 h3 h4 h5]
   have e1 : l8 x (ks.map Tre.kind) = true := bw p _ x (df _) (by omega) h.head hx
   have e2 := y9 N ks (p + 1) (by omega) h.head.kids fun j s y uE ov => bw j s y (by omega) (by omega)
   have e3 := y9 N ts (p + (Tre.flat (.mk k tx n m a ks)).length) (by omega) h.tail fun j s y uE ov => bw j s y (by omega) (by omega)
   rw [e1, e2, e3]; rfl
theorem D3 {t : Tre} (h : t.ok = true) {i : Nat} {s : Tre} (hs : dW t.flat i s) : s.ok = true := by
 have hi : i < t.flat.length := by have := hs.le; have := s.cR; omega
 obtain ⟨s', h1, h2⟩ := wE (l := t.flat) t.flat.length [t] 0 (by simp) ⟨[], by simp⟩ i (by omega) (by simpa using hi)
 rw [hs.inj h1]
 exact h2 (by simp [h])
theorem xR {s : Tre} (h : s.ok = true) {l : List Nd} {i : Nat} {x : Nd} (hs : dW l i s) (hx : l[i]? = some x) : l8 x (s.kids.map Tre.kind) = true := by
 obtain ⟨y, hy, h1, h2, h3, h4, h5, h6⟩ := hs.lD
 rw [hx] at hy; cases hy
 cases s with
 | mk k tx n m a ks =>
   rw [DA (k := k) (t := tx) (n := n) (m := m) (x := x) h1 h3 h4 h5, bN] at h
   exact h.1
theorem Fv : ∀ (ss : List mh) (ks : List Int), dp ks ss = true -> ∀ k ∈ ks, ∃ s ∈ ss, s.c.is k = true
 | [], ks, h, k, hk => by rw [dp, List.isEmpty_iff] at h; subst h; simp at hk
 | s :: ss, ks, h, k, hk => by
   rw [dp] at h
   split at h
   · cases h
   · generalize hq : ((ks.take (min (ks.length - (ss.map (·.least)).sum) s.my)).takeWhile s.c.is) = q at *
     have qx : q <+: ks := by
      rw [<- hq]
      exact (qM _).trans (List.take_prefix _ _)
     have gL : ks = q ++ ks.drop q.length := by
      obtain ⟨r, hr⟩ := qx
      rw [<- hr]; simp
     rw [gL, fC] at hk
     rcases hk with hk | hk
     · refine ⟨s, by simp, ?_⟩
       have : ∀ l : List Int, k ∈ l.takeWhile s.c.is -> s.c.is k = true := fun l => by
        induction l with
        | nil => simp
        | cons a l ih =>
          rw [nj]
          split
          · rename_i ha
            intro h
            rcases ep.1 h with rfl | h
            · exact ha
            · exact ih h
          · simp
       rw [<- hq] at hk
       exact this _ hk
     · obtain ⟨s', h1, h2⟩ := Fv ss _ h k hk
       exact ⟨s', by simp [h1], h2⟩
theorem RN : ∀ n : Fin 38, (match et ((n.val : Nat) : Int) with | some f => f.kids.all fun s => !s.c.is 1 | none => true) = true := by decide +kernel
theorem Vy {k : Int} {ks : List Int} (h : nQ k ks = true) : (1 : Int) ∉ ks := by
 intro hm
 unfold nQ at h
 split at h
 · rename_i f hf
   obtain ⟨s, h1, h2⟩ := Fv _ _ h 1 hm
   have hk : 1 <= k /\ k <= 37 := by
    by_cases h1 : k < 1 \/ 37 < k
    · rw [mH h1] at hf; cases hf
    · omega
   obtain ⟨n, rfl⟩ : ∃ n : Nat, k = n := ⟨k.toNat, by omega⟩
   have := RN ⟨n, by omega⟩
   simp only [hf, dJ] at this
   have := this s h1
   rw [h2] at this; cases this
 · cases h
theorem Sg {t : Tre} (h : t.ok = true) {i : Nat} {s : Tre} (hs : dW t.flat i s) (hi : 0 < i) : s.kind ≠ 1 := by
 have aJ : i < t.flat.length := by have := hs.le; have := s.cR; omega
 rcases (place t aJ).2 with h0 | ⟨i', s', h1, h2, h3⟩
 · omega
 · obtain ⟨q, hq, C3⟩ := List.getElem_of_mem h3
   obtain ⟨u, Vb, IY⟩ := uk h2.kids (show (bI (i' + 1) s'.kids)[q]? = some i by rw [<- C3]; simp)
   have := hs.inj IY
   subst this
   have dA := D3 h h2
   obtain ⟨x, hx, hk, _⟩ := h2.lD
   have hn := xR dA h2 hx
   unfold l8 at hn
   rw [bN] at hn
   intro e
   refine Vy hn.2 ?_
   rw [<- e]
   exact List.mem_map_of_mem (fi Vb)
theorem Ib {l : List Nd} (h9 : ¬ 900 < l.length) (h : ¬ ti l) : ey l = 4 := by
 unfold ey
 rw [if_neg h9, ML (fun h' => h ((rF l).2 h'))]
end Go.Rip
namespace Go.Rip
open Go.Proofs Go.RowKit
theorem tb {U : St} {bt : BT} {l : Bool} {k : IntKind} {a b : Int} {A B : AV -> St -> Prop} {Kp : AV -> St -> Prop} (h : a < b -> A (.bool true) U) (h' : ¬ a < b -> B (.bool false) U) : (ak .lss bt l (.int k a) (.int k b)).wp K U (fun v U => ao v (A v U) (B v U)) Kp := by
 rw [bj, ai]
 by_cases hc : a < b
 · simp only [hc, bS]; exact cG (h hc)
 · simp only [hc, cm]; exact du (h' hc)
theorem Ry {U : St} {v : AV} {l : List Nd} {i : Nat} {x : Nd} {cb : Bool} {c : Int} {bt : BT} {lb : Bool} {K' : AV -> St -> Prop} {Kp : AV -> St -> Prop} (h : gI U v l) (hx : l[i]? = some x) (hk : K' (.bool (cb && decide (x.kind = c))) U) :
 ad K (ar (.bool cb) true) (av.val v) fun a => ad K (ar (.bool cb) true) (av.val (.int .i64 (i : Nat))) fun b => ad K (ar (.bool cb) true) (aG (some (43, 6)) none a b) fun p => ad K (ar (.bool cb) true) (ag (some 0) p) fun q =>
  ad K (ar (.bool cb) true) (aq (some (false, 1)) q U) fun y => ad K (ar (.bool cb) true) (ak .eql bt lb y (.int .u8 c)) fun z => (aR (.bool cb) z (.bool false)).wp K U K' Kp := by
 cases cb with
 | true =>
   simp only [aI, dw]
   refine dc (dc (NC h hx (Hr x) ?_))
   rw [aW]
   refine dc ?_
   simp only [az, if_true, ai]
   simpa using hk
 | false =>
   simp only [aI, show (false == true) = false from rfl, aB, a8, az, bq, if_false, ai]
   simpa using hk
theorem Fl {U : St} {R : cB -> St -> Prop} {v : AV} {l : List Nd} (hv : gI U v l) (hl : l.length <= 50000) (iy : ∀ x ∈ l, x.text.length <= 100000)
 (h : ∀ ae, cJ U ae -> R (.ret (.int .i64 (ey l))) ae) : af K 31 [.agg [v]] U R := by
 refine Ou ?_
 unfold Ql
 rw [eA rfl]
 intro b1 dC
 have m1 : (U.new b1 (.box (ax (.agg [v])))).box b1 = some [v] := aL
 have e1 := bm dC (x := .box (ax (.agg [v])))
 generalize U.new b1 (.box (ax (.agg [v]))) = bJ at *
 clear dC
 simp only [aU, ai, ck]
 refine eG m1 rfl ?_
 have I0 := hv.o9 e1
 rw [I0.len, ai]
 refine tc (dj (fun h9 => ?_) fun h9 => ?_)
 · have : ey l = 5 := by unfold ey; rw [if_pos (by omega)]
   rw [this] at h
   exact aj.mk (h _ e1)
 have h9 : ¬ 900 < l.length := by omega
 refine R9 I0 (by omega) (fun hS => ?_) fun hS => ?_
 rotate_left
 · simp only [bu, cU, ai, da, aI, show (true == false) = false from rfl, aB, a8, az, if_true]
   refine cG ?_
   rw [Ib h9 hS] at h
   exact aj.mk (h _ e1)
 obtain ⟨t, ht⟩ := (rF l).1 hS
 subst ht
 rw [AH t h9] at h
 clear hS
 have yM := dW.whole t
 obtain ⟨x0, hx0, AU, _⟩ := yM.lD
 have oD := t.cR
 simp only [bu, cU, ai, bV, aI, dw, aB, bp, aw]
 refine DJ (i := 0) I0 hx0 (Hr x0) ?_
 rw [ct, aw]
 simp only [az, bq, if_false, ai, AU]
 by_cases nE : t.kind = 1
 rotate_left
 · simp only [nE, cm, da]
   refine cG ?_
   have : qk t = 4 := by unfold qk; rw [if_pos (.inl nE)]
   rw [this] at h
   exact aj.mk (h _ e1)
 simp only [nE, bS, bV]
 refine du ?_
 have bad : t.ok = false -> ∀ ae, cJ U ae -> aj R (.int .i64 4) ae := fun ho ae e => by
  have : qk t = 4 := by unfold qk; rw [if_pos (.inr ho)]
  rw [this] at h
  exact aj.mk (h _ e)
 refine ⟨fun m v3 v4 ae => ∃ i : Nat, m = t.flat.length - i /\ v3 = v /\ v4 = .int .i64 (i : Nat) /\ i <= t.flat.length /\ cJ U ae /\ ∀ j s x, j < i -> dW t.flat j s -> t.flat[j]? = some x -> l8 x (s.kids.map Tre.kind) = true, ⟨_, 0, rfl, rfl, rfl, by omega, e1, fun j s x h => by omega⟩, ?_⟩
 rintro m v3 v4 bX ⟨i, rfl, rfl, rfl, hi, e2, hN⟩
 have A6 := hv.o9 e2
 rw [A6.len, ai]
 refine tb (fun aJ => ?_) fun fZ => ?_
 · have aJ : i < t.flat.length := by omega
   obtain ⟨⟨s, _, hs, _⟩, _⟩ := place t aJ
   refine yV A6 hs (by omega) fun cE dL g3 => ?_
   have sG : (bI (i + 1) s.kids).length = s.kids.length := jd _ _
   have pD : eB dL (bI (i + 1) s.kids).length (fK (bI (i + 1) s.kids)) := by rw [sG]; exact g3.sl
   have hle := hs.le
   have CQ := ki s
   have hkk := Tre.nC s.kids
   simp only [bu]
   have e3 := e2.trans g3.ex
   refine ⟨fun m w3 w4 v5 v6 v7 ae => ∃ q : Nat, m = s.kids.length - q /\ w3 = v3 /\ w4 = .int .i64 (i : Nat) /\ v6 = dL /\ v7 = .int .i64 (q : Nat) /\ q <= s.kids.length /\ fj U ae v5 5 1 q (eC ((s.kids.take q).map Tre.kind)),
    ⟨_, 0, rfl, rfl, rfl, rfl, rfl, by omega, by simpa [eC] using fj.nil e3⟩, ?_⟩
   clear e3
   rintro m w3 w4 v5 v6 v7 cW ⟨q, rfl, rfl, rfl, rfl, rfl, hq, g⟩
   have XU : bB (some false) v6 = .val (.int .i64 (bI (i + 1) s.kids).length) := pD.len
   have C9 := hv.o9 g.ex
   rw [XU, ai, sG]
   refine tb (fun U3 => ?_) fun U3 => ?_
   · have U3 : q < s.kids.length := by omega
     obtain ⟨eO, xJ⟩ : ∃ eO, (bI (i + 1) s.kids)[q]? = some eO := ⟨(bI (i + 1) s.kids)[q]'(by omega), by simp⟩
     obtain ⟨u, Vb, IY⟩ := uk hs.kids xJ
     obtain ⟨y, hy, Vg, _⟩ := IY.lD
     refine WG pD xJ ?_
     refine wb C9 hy (Hr y) ?_
     refine Q7 rfl rfl ?_
     refine Ef g (m := 1) (l2 := [.int .u8 y.kind]) rfl rfl (by omega) (by omega) fun dV v' g5 _ => ?_
     rw [cq]
     refine ⟨aZ (by omega) (by omega), s.kids.length - (q + 1), by omega, q + 1, rfl, rfl, rfl, rfl, by simp, U3, ?_⟩
     have : (s.kids.take (q + 1)).map Tre.kind = (s.kids.take q).map Tre.kind ++ [y.kind] := by
      rw [od, Vb, List.map_append, Vg]; rfl
     rw [this]
     simpa [eC] using g5
   · have hq : q = s.kids.length := by omega
     subst hq
     rw [pv] at g
     obtain ⟨x, hx, hxk, _⟩ := hs.lD
     have aap : eB v5 (s.kids.map Tre.kind).length (eC (s.kids.map Tre.kind)) := by rw [List.length_map]; exact g.sl
     have hxt := iy x (fi hx)
     refine tc ?_
     refine Ry C9 hx ?_
     cases rU : (decide ((0 : Int) < ((i : Nat) : Int)) && decide (x.kind = 1)) with
     | true =>
       simp only [aI, show (true == false) = false from rfl, aB, a8, az, if_true, ai]
       refine cG (bad ?_ _ g.ex)
       cases U9 : t.ok with
       | false => rfl
       | true => simp only [bN, cP] at rU; exact absurd (hxk ▸ rU.2) (Sg U9 hs (by omega))
     | false =>
       simp only [aI, dw, aB, bp, aw]
       refine C9.nd hx (jc (EB x hxt) ?_)
       simp only [cU, aw, az, bq, if_false, ai]
       have Vu : l8 x (s.kids.map Tre.kind) = false -> aj R (AV.int .i64 4) cW := fun UW => by
        refine bad ?_ _ g.ex
        cases U9 : t.ok with
        | false => rfl
        | true =>
          have := xR (D3 U9 hs) hs hx
          rw [UW] at this; cases this
       cases hf : kT x with
       | false =>
         simp only [da, aI, show (true == false) = false from rfl, aB, a8, az, if_true, ai]
         refine cG (Vu ?_)
         unfold l8; rw [hf]; rfl
       | true =>
         simp only [bV, aI, dw, aB, bp, aw]
         refine DJ C9 hx (Hr x) ?_
         refine jc (Hd aap (by simp; omega) x.kind) ?_
         simp only [cU, aw, az, bq, if_false, ai]
         cases PK : nQ x.kind (s.kids.map Tre.kind) with
         | false => exact cG (Vu (by unfold l8; rw [hf, PK]; rfl))
         | true =>
           refine du ?_
           rw [cq]
           refine ⟨aZ (by omega) (by omega), t.flat.length - (i + 1), by omega, i + 1, rfl, rfl, by simp, by omega, g.ex, fun j s' x' hj dA ia => ?_⟩
           rcases eD j i with h | h
           · exact hN j s' x' h dA ia
           · have : j = i := by omega
             subst this
             rw [hx] at ia; cases ia
             rw [dA.inj hs]
             unfold l8; rw [hf, PK]; rfl
 · have hi : i = t.flat.length := by omega
   subst hi
   have cD : t.ok = true := by
    have := y9 (l := t.flat) _ [t] 0 (df _) ⟨[], by simp⟩ (fun j s x _ hj hs hx => hN j s x (by simpa using hj) hs hx)
    simpa using this
   have zS : qk t = if 60 < t.deep \/ 24 < t.kids.length then 5 else 0 := by unfold qk; rw [if_neg (by simp [nE, cD])]
   rw [zS] at h
   clear zS bad hN
   refine Nn A6 (by omega) fun b8 cE f8 m8 e3 => ?_
   have hDl := rS 0 t
   have Ua := e2.trans e3
   simp only [bu]
   refine ⟨fun m w3 v8 v9 ae => ∃ j : Nat, m = t.flat.length - j /\ w3 = v3 /\ v8 = .ms b8 0 t.flat.length 1 3 /\ v9 = .int .i64 (j : Nat) /\ j <= t.flat.length /\ ae = cE /\ ∀ j' d, j' < j -> (lE 0 t)[j']? = some d -> ¬ 60 < d, ⟨_, 0, rfl, rfl, rfl, rfl, by omega, rfl, fun j' d h => by omega⟩, ?_⟩
   rintro m w3 v8 v9 cW ⟨j, rfl, rfl, rfl, rfl, hj, rfl, hD⟩
   have C9 := hv.o9 Ua
   rw [C9.len, ai]
   refine tb (fun aJ => ?_) fun fZ => ?_
   · have aJ : j < t.flat.length := by omega
     obtain ⟨d, hd⟩ : ∃ d, (lE 0 t)[j]? = some d := ⟨(lE 0 t)[j]'(by omega), by simp⟩
     rw [wN]
     refine ⟨⟨by omega, by omega, rfl⟩, ?_⟩
     obtain ⟨r, hr⟩ := qB hd
     rw [ff m8, ej, Nat.mul_one, ck, hr, bG]
     refine tc (dj (fun h6 => ?_) fun h6 => ?_)
     · have : 60 < t.deep := (Cy t).1 ⟨d, fi hd, by omega⟩
       rw [if_pos (.inl this)] at h
       exact aj.mk (h _ Ua)
     · rw [cq]
       refine ⟨aZ (by omega) (by omega), t.flat.length - (j + 1), by omega, j + 1, rfl, rfl, rfl, by simp, aJ, rfl, fun j' d' CR pB => ?_⟩
       rcases eD j' j with h | h
       · exact hD j' d' h pB
       · have : j' = j := by omega
         subst this; rw [hd] at pB; cases pB; omega
   · have hj : j = t.flat.length := by omega
     subst hj
     have hnd : ¬ 60 < t.deep := fun h6 => by
      obtain ⟨d, h1, h2⟩ := (Cy t).2 h6
      obtain ⟨q, hq, C3⟩ := List.getElem_of_mem h1
      exact hD q d (by omega) (by rw [<- C3]; simp) h2
     refine yV (i := 0) C9 yM (by omega) fun dV v93 g5 => ?_
     have hlen : bB (some false) v93 = .val (.int .i64 t.kids.length) := g5.sl.len
     simp only [bu, hlen, ai]
     have e5 := Ua.trans g5.ex
     refine tc (dj (fun h6 => ?_) fun h6 => ?_)
     · rw [if_pos (.inr (by omega))] at h
       exact aj.mk (h _ e5)
     · rw [if_neg (by omega)] at h
       exact aj.mk (h _ e5)
end Go.Rip
