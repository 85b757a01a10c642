/- Lemmas for the proof: no conditions. -/
import Derived.Test.YtnfpmiiopiinbaaGreatDoorRipZz
import Derived.Test.YtnfpmiiopiinbaaGreatDoorRipP
import Derived.Test.YtnfpmiiopiinbaaGreatDoorRipS
import Derived.Test.YtnfpmiiopiinbaaGreatDoorRipT
set_option linter.unusedVariables false
set_option linter.unusedSimpArgs false
set_option linter.loopingSimpArgs false
namespace Go.Rip
open Go.Proofs Go.RowKit
theorem hX (b : Bool) : au (.aU []) b = .bool false := by cases b <;> rfl
theorem D6 (c : UInt8) : Pure K 221 [.int .u8 c.toNat] (.bool (kS c)) := by
 intro U R hR
 refine Po ?_
 simp (contextual := true) only [Pn, oq, ng, aV, bh, iW, eu, fg, aj, aS, aM, iz, bG, bz, aJ, aF, eN, yF, aT, aK, aE, cj, cM, ite_true, ite_false, beq_true, beq_false, cC, dk, ej, if_true, if_false, true_and, and_true, not_true, not_false_iff]
 repeat' (first | refine And.intro ?_ ?_ | intro _)
 all_goals (refine al.eq hR ?_; simp only [kS, AV.bool.injEq])
 all_goals grind
theorem yw (c : UInt8) : Pure K 224 [.int .u8 c.toNat] (.bool (eD c)) := by
 intro U R hR
 refine Pu ?_
 simp (contextual := true) only [Pt, oq, ng, aV, bh, iW, eu, fg, aj, aS, aM, iz, bG, bz, aJ, aF, eN, yF, aT, aK, aE, cj, cM, ite_true, ite_false, beq_true, beq_false, cC, dk, ej, if_true, if_false, true_and, and_true, not_true, not_false_iff]
 repeat' (first | refine And.intro ?_ ?_ | intro _)
 all_goals (refine al.eq hR ?_; simp only [eD, AV.bool.injEq])
 all_goals grind
theorem MV (c : UInt8) : Pure K 170 [.int .u8 c.toNat] (.bool (mx c)) := by
 intro U R hR
 refine OR ?_
 unfold OQ
 simp only [aV, aj]
 by_cases h : (c.toNat : Int) = 10
 · simp only [h, cj, aS, show (true == false) = false from rfl, aM, bz, hX, aF, if_true, aj]
   refine al.eq hR ?_
   simp only [mx, AV.bool.injEq]
   grind
 · simp only [h, cM]
   simp (contextual := true) only [dN, oq, ng, iW, fg, aj, aS, hX, aM, iz, bG, bz, aJ, aF, eN, yF, aT, cj, cM, ite_true, ite_false, beq_true, beq_false, cC, dk, ej, if_true, if_false, true_and, and_true, bH]
   repeat' (first | refine And.intro ?_ ?_ | intro _)
   all_goals (refine al.eq hR ?_; simp only [mx, AV.bool.injEq])
   all_goals grind
theorem MZ (c : UInt8) : Pure K 254 [.int .u8 c.toNat] (.bool (kS c || BH c)) := by
 intro U R hR
 refine PS ?_
 unfold PQ
 refine (D6 c).go ?_
 cases hs : kS c with
 | true =>
   rw [hs] at hR
   simp only [aS, show (true == false) = false from rfl, aM, bz, hX, aF, if_true, aj]
   exact al.mk hR
 | false =>
   rw [hs] at hR
   simp (contextual := true) only [dN, oq, ng, iW, fg, aj, aS, aM, iz, bG, bz, aJ, aF, eN, yF, aT, cj, cM, ite_true, ite_false, beq_true, beq_false, cC, dk, ej, if_true, if_false, true_and, and_true, bH]
   repeat' (first | refine And.intro ?_ ?_ | intro _)
   all_goals (refine al.eq hR ?_; simp only [BH, AV.bool.injEq])
   all_goals grind
theorem Jd {s : aZ} {q : UInt8 -> Bool} {p i : Nat} (Tl : p <= i) (hi : i <= s.length) (cq : ∀ j (hj : j < s.length), p <= j -> j < i -> q s[j] = true) (sR : ∀ h : i < s.length, q s[i] = false) : (s.drop p).takeWhile q = (s.take i).drop p := by
 have e : s.drop p = (s.take i).drop p ++ s.drop i := by
  conv => lhs; rw [<- List.take_append_drop i s]
  rw [List.drop_append, List.length_take, Nat.min_eq_left hi, show p - i = 0 by omega, eR]
 have h1 : ((s.take i).drop p).takeWhile q = (s.take i).drop p := rV fun x hx => by
  obtain ⟨j, hj, rfl⟩ := List.getElem_of_mem hx
  simp only [List.length_drop, List.length_take] at hj
  rw [List.getElem_drop, List.getElem_take]
  exact cq (p + j) (by omega) (by omega) (by omega)
 rw [e, List.takeWhile_append, h1]
 simp only [if_true]
 rcases eZ i s.length with h | h
 · rw [gX h, pn, sR h]; simp
 · rw [List.drop_eq_nil_of_le h]; simp
theorem KE (s : aZ) (p : Nat) (hp : p <= s.length) (hs : s.length <= 100000) : Pure K 220 [.str s, .int .i64 (p : Nat)] (.str ((s.drop p).takeWhile dx)) := by
 intro U R hR
 refine Pm ?_
 unfold Pk
 refine ⟨fun m v0 v1 v5 af => ∃ i : Nat, m = s.length - i /\ p <= i /\ i <= s.length /\ v0 = .str s /\ v1 = .int .i64 (p : Nat) /\ v5 = .int .i64 i /\ af = U /\ ∀ j (hj : j < s.length), p <= j -> j < i -> dx s[j] = true, ⟨_, p, rfl, cG _, hp, rfl, rfl, rfl, rfl, fun j hj h1 h2 => by omega⟩, ?_⟩
 rintro m v0 v1 v5 af ⟨i, rfl, Tl, hi, rfl, rfl, rfl, rfl, cq⟩
 have fin : (∀ h : i < s.length, dx s[i] = false) -> (fW true none (.str s) (some (.int .i64 (p : Nat))) (some (.int .i64 (i : Nat)))).wp K af (fun v28 U => al R v28 U) (aa R) := fun sR => by
  simp only [kV, iY, jU, wp_cond, aj, dR]
  refine ⟨⟨by omega, by omega, by omega⟩, ?_⟩
  rw [Jd Tl hi cq sR] at hR
  exact al.mk hR
 simp only [eM, aj, bh, aS, aM]
 by_cases aL : i < s.length
 · have jM : (i : Int) < s.length := by omega
   simp only [jM, cj, dN, bG, aJ, sn, eN, dR, getD_at aL]
   refine ⟨by simp, _, MZ s[i], ?_⟩
   have step : dx s[i] = true -> (aq .add (BT.mk false false false none) true (.int .i64 (i : Nat)) (AV.int .i64 1)).wp K af (fun v24 U => Fn.lam 3 (fun vs U => ∃ m', m' < s.length - i /\ Fn.app 3 (fun v0 v1 v5 gY => ∃ i : Nat, m' = s.length - i /\ p <= i /\ i <= s.length /\ v0 = .str s /\ v1 = .int .i64 (p : Nat) /\ v5 = .int .i64 i /\ gY = af /\ ∀ j (hj : j < s.length), p <= j -> j < i -> dx s[j] = true) vs U) (.str s) (.int .i64 (p : Nat)) v24 U) (aa R) := fun ha => by
    rw [cI]
    refine ⟨bp (by omega) (by omega), s.length - (i + 1), by omega, i + 1, rfl, by omega, by omega, rfl, rfl, by simp, rfl, fun j hj h1 h2 => ?_⟩
    rcases eZ j i with h | h
    · exact cq j hj h1 h
    · have : j = i := by omega
      subst this; exact ha
   cases hl : kS s[i] || BH s[i] with
   | true =>
     have ha : dx s[i] = true := by unfold dx; rw [Bool.or_assoc, hl]; simp
     simp only [aS, aM, show (true == false) = false from rfl, bz, aF, if_true, aJ, aj, aK]
     exact step ha
   | false =>
     simp only [aS, aM, dN, bG, sn, aJ, eN, dR, getD_at aL]
     refine ⟨by omega, _, yw s[i], ?_⟩
     have ha : dx s[i] = eD s[i] := by unfold dx; rw [Bool.or_assoc, hl]; simp
     simp only [aF, bH, if_false, if_true, aJ, aj]
     cases hd : eD s[i] with
     | true => simp only [aK]; exact step (ha.trans hd)
     | false => simp only [aE]; exact fin fun _ => ha.trans hd
 · have jM : ¬ (i : Int) < s.length := by omega
   simp only [jM, cM, show (false == true) = false from rfl, bz, hX, aF, bH, if_false, aJ, aj, aM, aE]
   exact fin fun h => absurd h aL
end Go.Rip
namespace Go.Rip
open Go.Proofs Go.RowKit
theorem KB (s : aZ) (p : Nat) (hp : p <= s.length) (hs : s.length <= 100000) : Pure K 171 [.str s, .int .i64 (p : Nat)] (.str ((s.drop p).takeWhile fun c => c.toNat ≠ 10)) := by
 intro U R hR
 refine OT ?_
 unfold OS
 refine ⟨fun m v0 v1 v5 af => ∃ i : Nat, m = s.length - i /\ p <= i /\ i <= s.length /\ v0 = .str s /\ v1 = .int .i64 (p : Nat) /\ v5 = .int .i64 i /\ af = U /\ ∀ j (hj : j < s.length), p <= j -> j < i -> (decide (s[j].toNat ≠ 10)) = true, ⟨_, p, rfl, cG _, hp, rfl, rfl, rfl, rfl, fun j hj h1 h2 => by omega⟩, ?_⟩
 rintro m v0 v1 v5 af ⟨i, rfl, Tl, hi, rfl, rfl, rfl, rfl, cq⟩
 have fin : (∀ h : i < s.length, (decide (s[i].toNat ≠ 10)) = false) -> (fW true none (.str s) (some (.int .i64 (p : Nat))) (some (.int .i64 (i : Nat)))).wp K af (fun v28 U => al R v28 U) (aa R) := fun sR => by
  simp only [kV, iY, jU, wp_cond, aj, dR]
  refine ⟨⟨by omega, by omega, by omega⟩, ?_⟩
  rw [Jd (q := fun c => c.toNat ≠ 10) Tl hi cq sR] at hR
  exact al.mk hR
 simp only [eM, aj, bh, aS, aM]
 by_cases aL : i < s.length
 · have jM : (i : Int) < s.length := by omega
   simp only [jM, cj, dN, bG, aJ, sn, eN, dR, getD_at aL, cg, aF, if_true, aj]
   refine ⟨by simp, ?_⟩
   by_cases lA : s[i].toNat = 10
   · have : ((s[i].toNat : Int) = 10) := by omega
     simp only [this, cj, cC, aE]
     exact fin fun _ => by simp [lA]
   · have : ¬ ((s[i].toNat : Int) = 10) := by omega
     simp only [this, cM, dk, aK, cI]
     refine ⟨bp (by omega) (by omega), s.length - (i + 1), by omega, i + 1, rfl, by omega, by omega, rfl, rfl, by simp, rfl, fun j hj h1 h2 => ?_⟩
     rcases eZ j i with h | h
     · exact cq j hj h1 h
     · have : j = i := by omega
       subst this; simp [lA]
 · have jM : ¬ (i : Int) < s.length := by omega
   simp only [jM, cM, show (false == true) = false from rfl, bz, hX, aF, bH, if_false, aJ, aj, aM, aE]
   exact fin fun h => absurd h aL
theorem MY (c : kh) (l : List aZ) (s : aZ) (hn : l.length <= 100000) : Pure K 222 [.vec l.length c (l.map .str), .str s] (.bool (decide (s ∈ l))) := by
 intro U R hR
 refine Pq ?_
 unfold Pp
 refine ⟨fun m v0 v1 v5 af => ∃ i : Nat, m = l.length - i /\ i <= l.length /\ v0 = .vec l.length c (l.map .str) /\ v1 = .str s /\ v5 = .int .i64 i /\ af = U /\ ∀ j, j < i -> l[j]? ≠ some s, ⟨_, 0, rfl, by omega, rfl, rfl, rfl, rfl, fun j hj => by omega⟩, ?_⟩
 rintro m v0 v1 v5 af ⟨i, rfl, hi, rfl, rfl, rfl, rfl, fM⟩
 simp only [pH, bh, aj, aT]
 refine ⟨fun aL => ?_, fun gk => ?_⟩
 · have aL : i < l.length := by omega
   have hd : (l.map AV.str).drop ((i : Int).toNat * 1) = .str l[i] :: (l.map AV.str).drop (i + 1) := by
    rw [dR, Nat.mul_one, gX (by simpa using aL)]; simp
   rw [uM]
   refine ⟨by omega, ?_⟩
   rw [hd, mR, bq]
   simp only [iV, aj, aT]
   refine ⟨fun he => ?_, fun cH => ?_⟩
   · refine al.eq hR ?_
     have : s ∈ l := he ▸ qU aL
     simp [this]
   · rw [cI]
     refine ⟨bp (by omega) (by omega), l.length - (i + 1), by omega, i + 1, rfl, by omega, rfl, rfl, by simp, rfl, fun j hj => ?_⟩
     rcases eZ j i with h | h
     · exact fM j h
     · have : j = i := by omega
       subst this
       rw [jQ aL]; simpa using cH
 · refine al.eq hR ?_
   have : s ∉ l := fun hm => by
    obtain ⟨j, hj, he⟩ := List.getElem_of_mem hm
    exact fM j (by omega) (by rw [jQ hj, he])
   simp [this]
theorem RL (s w : aZ) (p : Nat) (hp : p <= s.length) (hs : s.length <= 100000) (hw : w.length <= 100000) : Pure K 227 [.str s, .int .i64 (p : Nat), .str w] (.bool (w.isPrefixOf (s.drop p))) := by
 intro U R hR
 refine PA ?_
 unfold Pz
 simp only [eM, aj, Us, fg, aS, aM]
 refine ⟨bp (by omega) (by omega), ?_⟩
 by_cases hl : (w.length : Int) <= (s.length : Int) - (p : Int)
 · simp only [hl, cj, dN, bG, aJ, eN, eM, zc]
   refine ⟨bp (by omega) (by omega), ?_⟩
   simp only [kV, iY, jU, jX, aJ, dR]
   refine ⟨⟨by omega, by omega, by omega⟩, ?_⟩
   simp only [iV, aJ, aF, if_true, aj]
   refine al.eq hR ?_
   have e : ((p : Int) + (w.length : Int)).toNat = p + w.length := by omega
   rw [e]
   have e2 : (s.take (p + w.length)).drop p = (s.drop p).take w.length := by rw [List.drop_take]; congr 1; omega
   rw [e2]
   congr 1
   rw [nq, ej, List.isPrefixOf_iff_prefix, List.prefix_iff_eq_take]
   exact eq_comm
 · simp only [hl, cM, show (false == true) = false from rfl, bz, aF, bH, if_false, aj]
   refine al.eq hR ?_
   congr 1
   rw [eq_comm, Bool.eq_false_iff]
   intro h
   have := (List.isPrefixOf_iff_prefix.1 h).length_le
   simp at this
   omega
end Go.Rip
namespace Go.Rip
open Go.Proofs Go.RowKit
theorem LG {s : aZ} (h : 0 < s.length) : s.head? = some s[0] := by
 cases s with
 | nil => simp at h
 | cons c r => rfl
theorem M0 (s : aZ) (hs : s.length <= 100000) : Pure K 225 [.str s] (.int .i64 (ky s)) := by
 intro U R hR
 refine Pw ?_
 unfold Pv
 refine ⟨fun m v0 v3 v4 af => ∃ i : Nat, m = s.length - i /\ i <= s.length /\ v0 = .str s /\ v3 = .int .i64 (ix 0 (s.take i)) /\ v4 = .int .i64 i /\ af = U /\ (s.take i).all eD = true /\ (1 < i -> s.head? ≠ some 48), ⟨s.length, 0, by simp [Fn.app, ix]⟩, ?_⟩
 rintro m v0 v3 v4 af ⟨i, rfl, hi, rfl, rfl, rfl, rfl, cq, hh⟩
 have hb := CW (s.take i) 0 (by omega)
 have rD := sC (s.take i) 0 cq (by omega)
 simp only [eM, aj, bh, aT]
 refine ⟨fun aL => ?_, fun gk => ?_⟩
 · have aL : i < s.length := by omega
   rw [qv]
   refine ⟨by omega, ?_⟩
   rw [dR, getD_at aL]
   refine (yw s[i]).go ?_
   have fN : s.take (i + 1) = s.take i ++ [s[i]] := by rw [qS, jQ aL]; rfl
   have h0 : s.getD (0 : Int).toNat 0 = s[0] := getD_at (by omega)
   have hhd := LG (s := s) (by omega)
   simp only [cZ, aj]
   cases hd : eD s[i] with
   | false =>
     simp only [dk, aS, show (true == false) = false from rfl, aM, bz, hX, aF, if_true, aj, aK]
     refine al.eq hR ?_
     have : s.all eD = false := by
      rw [Bool.eq_false_iff]
      intro h
      rw [eY] at h
      rw [h s[i] (qU aL)] at hd
      cases hd
     simp [ky, this]
   | true =>
     have hc := jW.1 hd
     have step : (1 < i + 1 -> s.head? ≠ some 48) -> (aq .mul (BT.mk false false false none) true (AV.int .i64 10) (.int .i64 (ix 0 (s.take i)))).wp K af (fun df U =>
      (dU true none none (.str s) (.int .i64 (i : Nat))).wp K U (fun cO U =>
      (aq .sub (BT.mk false false false none) true cO (AV.int .u8 48)).wp K U (fun v30 U =>
      (se (some .i64) true false false v30).wp K U (fun v31 U =>
      (aq .add (BT.mk false false false none) false df v31).wp K U (fun ep U =>
      (ux ep (AV.int .i64 1000001)).wp K U (fun dY U =>
      (aq .add (BT.mk false false false none) true (.int .i64 (i : Nat)) (AV.int .i64 1)).wp K U (fun v10 U =>
      Fn.lam 3 (fun vs U => ∃ m', m' < s.length - i /\ Fn.app 3 (fun v0 v3 v4 gY => ∃ i : Nat, m' = s.length - i /\ i <= s.length /\ v0 = .str s /\ v3 = .int .i64 (ix 0 (s.take i)) /\ v4 = .int .i64 i /\ gY = af /\ (s.take i).all eD = true /\ (1 < i -> s.head? ≠ some 48)) vs U) (.str s) dY v10 U) (aa R)) (aa R)) (aa R)) (aa R)) (aa R)) (aa R)) (aa R) := fun hh' => by
      rw [KV]
      refine ⟨bp (by omega) (by omega), ?_⟩
      rw [qv]
      refine ⟨by omega, ?_⟩
      rw [dR, getD_at aL]
      have hw : IntKind.u8.wrap ((s[i].toNat : Int) - 48) = (s[i].toNat : Int) - 48 := by
       show ((s[i].toNat : Int) - 48) % 256 = _
       omega
      simp only [jT, Ae, aj, hw, se, wp_cond, cI, IH]
      refine ⟨bp (by omega) (by omega), bp (by omega) (by omega), bp (by omega) (by omega), ?_⟩
      refine ⟨s.length - (i + 1), by omega, i + 1, rfl, by omega, rfl, ?_, by simp, rfl, ?_, hh'⟩
      · rw [D0 aL]
        congr 1
        omega
      · rw [fN, List.all_append, cq]; simp [hd]
     simp only [cC, aS, dN, aM, bG, aJ, eu, eN]
     by_cases Bq : 0 < i
     · have : ((i : Int) > 0) := by omega
       simp only [show ((0 : Int) < (i : Nat)) from this, cj, dN, bG, aJ, sn, h0, aV, eN, aF, bH, if_false, if_true, aj, aT]
       refine ⟨⟨by omega, by omega⟩, fun Ds => ?_, fun Ds => ?_⟩
       · refine al.eq hR ?_
         have Xv : s[0] = 48 := UInt8.toNat_inj.1 (show s[0].toNat = (48 : UInt8).toNat by show s[0].toNat = 48; omega)
         have h1 : 1 < s.length := by omega
         by_cases ha : s.all eD = false
         · simp [ky, ha]
         · simp [ky, ha, hhd, Xv, h1]
       · refine step fun _ h => Ds ?_
         rw [hhd] at h
         have : s[0] = 48 := by simpa using h
         rw [this]; rfl
     · have : ¬ ((0 : Int) < (i : Nat)) := by omega
       simp only [this, cM, show (false == true) = false from rfl, bz, hX, aF, bH, if_false, aJ, aj, aE]
       exact step fun h => by omega
 · have hi : i = s.length := by omega
   subst hi
   rw [ql] at cq hb rD ⊢
   have hv : CX s = ix 0 s := rfl
   simp only [eu, aj, aT]
   have hn : ¬ (1 < s.length /\ s.head? = some 48) := fun h => hh h.1 h.2
   refine ⟨fun hm => ?_, fun hm => ?_⟩
   · refine al.eq hR ?_
     simp only [ky, cq, hn, hv, if_false, Bool.true_eq_false]
     rw [if_pos (by omega)]
   · refine al.eq hR ?_
     simp only [ky, cq, hn, hv, if_false, Bool.true_eq_false]
     rw [if_neg (by omega)]
end Go.Rip
namespace Go.Rip
open Go.Proofs Go.RowKit
def Qp : (Nat -> Option (Nat × Nat)) -> List (Nat × AV) -> List AV -> Option (List AV)
 | _, [], z => some z
 | pl, (i, x) :: rest, z => match pl i with
   | some (o, s) => if x.cN = true /\ (aC x).length = s /\ o + s <= z.length then Qp pl rest (az z o (aC x)) else none
   | none => none
theorem xx {U : St} {K' : AV -> St -> Prop} {Kp : AV -> St -> Prop} {n m : Nat} : ∀ {pl : Nat -> Option (Nat × Nat)} {ps : List (Nat × AV)} {z zs : List AV}, Qp pl ps z = some zs -> zs.length = m -> K' (.vec n .full zs) U -> (fE pl ps z fun cs => .cond (cs.length = m) (.val (.vec n .full cs))).wp K U K' Kp
 | pl, [], z, zs, h, hm, hk => by cases h; rw [er]; exact ⟨hm, hk⟩
 | pl, (i, x) :: rest, z, zs, h, hm, hk => by
   simp only [Qp] at h
   split at h
   · rename_i o s e
     split at h
     · rename_i hc; rw [c6 e]; exact ⟨hc, xx h hm hk⟩
     · cases h
   · cases h
theorem Y5 {U : St} {R : cS -> St -> Prop} (h : R (.ret (.vec kr.length .full (kr.map .str))) U) : ad K 223 [] U R := by
 refine Ps ?_
 unfold Pr
 rw [dE]
 refine ⟨by omega, ?_⟩
 exact xx (zs := kr.map .str) (by kernel_rfl) (by rfl) (al.mk h)
theorem Y7 {U : St} {R : cS -> St -> Prop} (h : R (.ret (.vec gL.length .full (gL.map .str))) U) : ad K 226 [] U R := by
 refine Py ?_
 unfold Px
 rw [dE]
 refine ⟨by omega, ?_⟩
 exact xx (zs := gL.map .str) (by kernel_rfl) (by rfl) (al.mk h)
def o7 (t : Int × Nat × aZ) (p : Nat) : AV := if t.1 = 0 then .aU [.agg [.int .u8 t.2.1, .str t.2.2, .int .i64 p], .int .i64 0] else .aU [.agg [.int .u8 0, .str [], .int .i64 0], .int .i64 t.1]
theorem I9 : ∀ x ∈ gL, x ≠ [] /\ x.length <= 10 /\ ∀ d ∈ x.head?, dx d = false := by decide
theorem RR {c : UInt8} {r : aZ} (h : dx c = true) : pq (c :: r) = (4, 0, []) := by
 have : gL.find? (fun x => x.isPrefixOf (c :: r)) = none := by
  rw [List.find?_eq_none]
  intro x hx hp
  obtain ⟨h1, _, h2⟩ := I9 x hx
  cases x with
  | nil => exact h1 rfl
  | cons d y =>
    have hp := List.isPrefixOf_iff_prefix.1 hp
    have := (List.cons_prefix_cons.1 hp).1
    subst this
    rw [h2 d rfl] at h; cases h
 unfold pq
 rw [this]
theorem D7 (s : aZ) (p : Nat) (hp : p <= s.length) (hs : s.length <= 100000) : Pure K 172 [.str s, .int .i64 (p : Nat)] (o7 (gx (s.drop p)) p) := by
 refine Pure.of rfl (by unfold o7; split <;> rfl) (fun U => by unfold o7; split <;> rfl) fun R hR => ?_
 refine OV ?_
 unfold OU
 rw [du]
 intro b hb
 generalize rZ : (bX _).new b _ = U
 have hY : U.box b = some [AV.int .u8 0, AV.str [], AV.int .i64 0] := by rw [<- rZ]; exact aW
 clear rZ hb
 refine (KE s p hp hs).go ?_
 have fin : ∀ (cells : List AV) (e : Int) (ps : List (Nat × AV)) (af : St), af.box b = some [AV.int .u8 0, AV.str [], AV.int .i64 0] -> pT [(0, 1), (1, 1), (2, 1)] ps [AV.int .u8 0, AV.str [], AV.int .i64 0] = some cells -> cells.length = 3 -> o7 (gx (s.drop p)) p = .aU [.agg cells, .int .i64 e] ->
  (bE (some [(0, 1), (1, 1), (2, 1)]) (some [AV.int .u8 0, AV.str [], AV.int .i64 0]) none ps).wp K af (fun v U => (aD (some (true, 3)) (.box b 0) v U).wp K U (fun _ U => bL (some (true, 3)) (.box b 0) U fun r0 => al R (.aU [r0, .int .i64 e]) U) (aa R)) (aa R) := by
  intro cells e ps af eA h1 hc h2
  refine gz _ h1 ?_
  rw [cT eA]
  have xV : az [AV.int .u8 0, AV.str [], AV.int .i64 0] 0 (aC (.agg cells)) = cells := by
   match cells, hc with
   | [x, y, z], _ => rfl
  refine ⟨⟨rfl, hc, by simp⟩, ?_⟩
  rw [ny bf, xV]
  refine ⟨by simp [hc], ?_⟩
  rw [h2] at hR
  refine al.eq (hR _) ?_
  rw [eR, uD (by omega)]
 have Um : gx (s.drop p) = pq (s.drop p) -> ad K 226 [] U (ai (fun v51 U =>
  cD 5 [.str s, .int .i64 (p : Nat), .box b 0, v51, (AV.int .i64 0)] U fun lp v0 v1 ee v8 v9 U =>
   (bD (some false) v8).wp K U (fun iQ U =>
   (aq .lss (BT.mk false false false none) false v9 iQ).wp K U (fun gD U =>
   ao gD (
    (aH (some (9, 1)) none v8 v9).wp K U (fun oZ U =>
    (av (some (false, 1)) oZ U).wp K U (fun jZ U =>
    ad K 227 [v0, v1, jZ] U (ai (fun kY U =>
    ao kY (
     (aH (some (9, 1)) none v8 v9).wp K U (fun pP U =>
     (av (some (false, 1)) pP U).wp K U (fun lF U =>
     (bE (some [(0, 1), (1, 1), (2, 1)]) (some [AV.int .u8 0, AV.str [], AV.int .i64 0]) none [(0, (AV.int .u8 4)), (1, lF), (2, v1)]).wp K U (fun v70 U =>
     (aD (some (true, 3)) ee v70 U).wp K U (fun _ U =>
     bL (some (true, 3)) ee U fun Gx =>
     al R (AV.aU [Gx, (AV.int .i64 0)]) U) (aa R)) (aa R)) (aa R)) (aa R)) (
     (aq .add (BT.mk false false false none) true v9 (AV.int .i64 1)).wp K U (fun jx U =>
     lp v0 v1 ee v8 jx U) (aa R))) (aa R))) (aa R)) (aa R)) (
    (bE (some [(0, 1), (1, 1), (2, 1)]) (some [AV.int .u8 0, AV.str [], AV.int .i64 0]) none []).wp K U (fun jq U =>
    (aD (some (true, 3)) ee jq U).wp K U (fun _ U =>
    bL (some (true, 3)) ee U fun RH =>
    al R (AV.aU [RH, (AV.int .i64 4)]) U) (aa R)) (aa R))) (aa R)) (aa R)) (aa R)) := fun nK => by
  refine Y7 ?_
  simp only [bg]
  refine ⟨fun m v0 v1 v4 v8 v9 af => ∃ k : Nat, m = gL.length - k /\ k <= gL.length /\ v0 = .str s /\ v1 = .int .i64 (p : Nat) /\ v4 = .box b 0 /\ v8 = .vec gL.length .full (gL.map .str) /\ v9 = .int .i64 (k : Nat) /\ af = U /\ ∀ j, j < k -> ∀ y, gL[j]? = some y -> y.isPrefixOf (s.drop p) = false,
   ⟨_, 0, rfl, by omega, rfl, rfl, rfl, rfl, rfl, rfl, fun j hj => by omega⟩, ?_⟩
  rintro m v0 v1 v4 v8 v9 af ⟨k, rfl, hk, rfl, rfl, rfl, rfl, rfl, rfl, fM⟩
  have BC : gL.length = 16 := rfl
  simp only [pH, bh, aj, aT]
  refine ⟨fun aL => ?_, fun gk => ?_⟩
  · have aL : k < gL.length := by omega
    have hd : (gL.map AV.str).drop ((k : Int).toNat * 1) = .str gL[k] :: (gL.map AV.str).drop (k + 1) := by
     rw [dR, Nat.mul_one, gX (by simpa using aL)]; simp
    rw [uM]
    refine ⟨by omega, ?_⟩
    rw [hd, mR, bq]
    have hg : gL[k]? = some gL[k] := jQ aL
    have iN := (I9 gL[k] (qU aL)).2.1
    refine (RL s gL[k] p hp hs (by omega)).go ?_
    cases hpx : gL[k].isPrefixOf (s.drop p) with
    | true =>
      simp only [aK]
      rw [uM]
      refine ⟨by omega, ?_⟩
      rw [hd, mR, bq]
      refine fin _ 0 _ _ hY rfl rfl ?_
      rw [nK]
      unfold pq
      rw [Dp fM hg hpx]
      rfl
    | false =>
      simp only [aE, cI]
      refine ⟨bp (by omega) (by omega), gL.length - (k + 1), by omega, k + 1, rfl, by omega, rfl, rfl, rfl, rfl, by simp, rfl, fun j hj y hy => ?_⟩
      rcases eZ j k with h | h
      · exact fM j h y hy
      · have : j = k := by omega
        subst this
        rw [hg] at hy; cases hy; exact hpx
  · have qA : k = gL.length := by omega
    refine fin _ 4 _ _ hY rfl rfl ?_
    rw [nK]
    unfold pq
    rw [Fm (by subst qA; exact fM)]
    rfl
 have oE : gx (s.drop p) = match (s.drop p).takeWhile dx with
  | [] => pq (s.drop p)
  | c :: r => if eD c then (ky (c :: r), 2, c :: r) else if kS c = false then (4, 0, []) else if (c :: r) ∈ kr then (0, 3, c :: r) else if 12 < (c :: r).length then (4, 0, []) else (0, 1, c :: r) := by
  unfold gx pq
  simp only
  cases (s.drop p).takeWhile dx <;> rfl
 have hwl : ((s.drop p).takeWhile dx).length <= 100000 := by
  have := (rT dx (l := s.drop p)).length_le
  simp at this; omega
 have u6 : ∀ c r, (s.drop p).takeWhile dx = c :: r -> dx c = true /\ ∃ r', s.drop p = c :: r' := fun c r h => by
  cases hd : s.drop p with
  | nil => rw [hd] at h; simp at h
  | cons d t =>
    rw [hd, pn] at h
    split at h
    · rename_i hc; cases h; exact ⟨hc, t, rfl⟩
    · cases h
 cases hw : (s.drop p).takeWhile dx with
 | nil =>
   rw [hw] at oE
   simp only [iX, show w_ = ([] : List UInt8) from rfl, cj, cC, aj, aS, aM, show (false == true) = false from rfl, bz, aF, bH, if_false, aE]
   exact Um oE
 | cons c r =>
   rw [hw] at oE hwl
   obtain ⟨hca, r', rX⟩ := u6 c r hw
   have cH : ¬ (c :: r = w_) := by simp [show w_ = ([] : List UInt8) from rfl]
   simp only [iX, cH, cM, dk, aj, aS, aM, dN, bG, aJ, sn, eN]
   refine ⟨by simp, _, D6 c, ?_⟩
   simp only [aJ, aF, if_true, aj]
   cases iN : kS c with
   | true =>
     have SY : eD c = false := by
      unfold kS at iN; unfold eD
      have h97 := of_decide_eq_true iN
      rw [decide_eq_false_iff_not]
      omega
     simp only [aK]
     simp only [SY, iN, bH, if_false, Bool.true_eq_false] at oE
     refine Y5 ?_
     simp only [bg]
     refine (MY .full kr (c :: r) (by decide)).go ?_
     by_cases hk : (c :: r) ∈ kr
     · simp only [hk, cj, aK]
       rw [if_pos hk] at oE
       exact fin _ 0 _ _ hY rfl rfl (by rw [oE]; rfl)
     · simp only [hk, cM, aE, eM, eu, aj, aT]
       rw [if_neg hk] at oE
       refine ⟨fun h => ?_, fun h => ?_⟩
       · rw [if_pos (by omega)] at oE
         exact fin _ 4 _ _ hY rfl rfl (by rw [oE]; rfl)
       · rw [if_neg (by omega)] at oE
         exact fin _ 0 _ _ hY rfl rfl (by rw [oE]; rfl)
   | false =>
     simp only [aE]
     refine ⟨by simp, _, yw c, ?_⟩
     simp only [aJ, aF, if_true, aj]
     cases SY : eD c with
     | true =>
       simp only [aK]
       simp only [SY, if_true] at oE
       refine (M0 (c :: r) hwl).go ?_
       simp only [cg, aj]
       by_cases he : ky (c :: r) = 0
       · simp only [he, cj, cC, aE]
         exact fin _ 0 _ _ hY rfl rfl (by rw [oE]; simp [o7, he]; rfl)
       · simp only [he, cM, dk, aK]
         exact fin _ _ _ _ hY rfl rfl (by rw [oE]; simp [o7, he])
     | false =>
       simp only [aE]
       simp only [SY, iN, bH, if_false, if_true] at oE
       refine Um ?_
       rw [oE, rX, RR hca]
end Go.Rip
namespace Go.Rip
open Go.Proofs Go.RowKit
theorem MW (s : aZ) : Pure K 111 [.str s] (.aU [.int .i64 (pb s).1, .int .i64 (pb s).2]) := by
 intro U R hR
 refine Nr ?_
 unfold Nq
 simp only [eM, aj, eu, aT]
 unfold pb at hR
 refine ⟨fun h => ?_, fun h => ?_⟩
 · rw [if_pos (by omega)] at hR
   exact al.mk hR
 · rw [if_neg (by omega)] at hR
   refine ⟨fun m v0 v10 af => ∃ i : Nat, m = s.length - i /\ i <= s.length /\ v0 = .str s /\ v10 = .int .i64 i /\ af = U /\ ∀ j (hj : j < s.length), j < i -> mx s[j] = true, ⟨s.length, 0, by simp [Fn.app]⟩, ?_⟩
   rintro m v0 v10 af ⟨i, rfl, hi, rfl, rfl, rfl, cq⟩
   simp only [eM, bh, aj, aT]
   refine ⟨fun aL => ?_, fun gk => ?_⟩
   · have aL : i < s.length := by omega
     rw [qv]
     refine ⟨by omega, ?_⟩
     rw [dR, getD_at aL]
     refine (MV s[i]).go ?_
     simp only [cZ, aj]
     cases hb : mx s[i] with
     | false =>
       simp only [dk, aK]
       have : s.findIdx? (fun c => !mx c) = some i := by
        rw [C1]
        exact ⟨aL, by simp [hb], fun j hj => by simp [cq j (by omega) hj]⟩
       rw [this] at hR
       exact al.mk hR
     | true =>
       simp only [cC, aE, cI]
       refine ⟨bp (by omega) (by omega), s.length - (i + 1), by omega, i + 1, rfl, by omega, rfl, by simp, rfl, fun j hj tH => ?_⟩
       rcases eZ j i with h | h
       · exact cq j hj h
       · have : j = i := by omega
         subst this; exact hb
   · have : s.findIdx? (fun c => !mx c) = none := by
      rw [List.findIdx?_eq_none_iff]
      intro x hx
      obtain ⟨j, hj, rfl⟩ := List.getElem_of_mem hx
      simp [cq j hj (by omega)]
     rw [this] at hR
     exact al.mk hR
def Aa (v w : AV) : Prop := ∀ τ n l n' l', v = .vec n (.own τ) l -> w = .vec n' (.own τ) l' -> False
theorem Aa.symm {v w : AV} (h : Aa v w) : Aa w v := fun τ n l n' l' h1 h2 => h τ n' l' n l h2 h1
theorem Grow.sO {U af : St} {v : AV} {e sz n : Nat} {l : List AV} (g : Grow U v e sz n l) (h : dr U af) : Grow af v e sz n l := by
 rcases g with g | ⟨τ, h1, h2, h3⟩
 · exact .inl g
 · exact .inr ⟨τ, h1, h.tok h2, h3⟩
theorem Lr {U : St} {v : AV} {e sz n : Nat} {l : List AV} (h : Grow U v e sz n l) : bD (some false) v = .val (.int .i64 n) := by
 rcases h with ⟨rfl, rfl, rfl⟩ | ⟨τ, rfl, _⟩ <;> rfl
theorem SU {U af : St} {v v' w : AV} {e sz n : Nat} {l : List AV} (g : Grow U w e sz n l) (d : Aa v w)
 (e1 : ∀ b x, (∀ n l, v ≠ .vec n (.own b) l) -> U.live b = some x -> af.live b = some x) (e2 : ∀ n τ l, v' = .vec n (.own τ) l -> U.live τ = none \/ ∃ n l, v = .vec n (.own τ) l) : Grow af w e sz n l /\ Aa v' w := by
 rcases g with ⟨h1, h2, rfl⟩ | ⟨τ, rfl, h2, h3⟩
 · exact ⟨.inl ⟨h1, h2, rfl⟩, fun τ n l n' l' _ h => by cases h⟩
 · refine ⟨.inr ⟨τ, rfl, ?_, h3⟩, fun sb n1 l1 n2 l2 k1 k2 => ?_⟩
   · cases hx : U.live τ with
     | none => exact absurd hx (yJ h2)
     | some x => rw [rq ((e1 τ x (fun n l hv => d τ n l _ _ hv rfl) hx).trans hx.symm)]; exact h2
   · cases k2
     rcases e2 _ _ _ k1 with h | ⟨n3, l3, h⟩
     · exact yJ h2 h
     · exact d τ _ _ _ _ h rfl
theorem Vd (s : aZ) (hs : s.length <= 3000) {U : St} {R : cS -> St -> Prop}
 (cW : ∀ l v7 v af, je s.length s 0 [] = .ok l -> Grow af v 51 3 l.length (ib l) -> (l = [] -> v = .ak) -> R (.ret (.aU [v, v7, .int .i64 0, .int .i64 0])) af)
 (QW : ∀ p e af, je s.length s 0 [] = .bad p e -> R (.ret (.aU [.ak, .ak, .int .i64 (p : Nat), .int .i64 e])) af) : ad K 112 [.str s] U R := by
 refine Nt ?_
 unfold Ns
 refine ⟨fun m v0 v6 v7 v8 af => ∃ f p l n7 l7, m = s.length - p /\ v0 = .str s /\ v8 = .int .i64 (p : Nat) /\ p <= s.length /\ s.length - p <= f /\ l.length <= 900 /\ n7 <= p /\ je f s p l = je s.length s 0 [] /\ Grow af v6 51 3 l.length (ib l) /\ (l = [] -> v6 = .ak) /\ Grow af v7 51 3 n7 l7 /\ (n7 = 0 -> v7 = .ak) /\ Aa v6 v7,
  ⟨_, s.length, 0, [], 0, [], rfl, rfl, rfl, by omega, by omega, by simp, by omega, rfl, .inl ⟨rfl, rfl, rfl⟩, fun _ => rfl, .inl ⟨rfl, rfl, rfl⟩, fun _ => rfl, fun τ n l n' l' h => by cases h⟩, ?_⟩
 rintro m v0 v6 v7 v8 bP ⟨f, p, l, n7, l7, rfl, rfl, rfl, hp, hf, Im, Te, dQ, g6, z6, g7, z7, D⟩
 simp only [eM, bh, aj, aT]
 refine ⟨fun aL => ?_, fun gk => ?_⟩
 · have aL : p < s.length := by omega
   obtain ⟨f, rfl⟩ : ∃ f', f = f' + 1 := ⟨f - 1, by omega⟩
   have rX : s.drop p = s[p] :: s.drop (p + 1) := gX aL
   rw [je, rX] at dQ
   simp only at dQ
   have blank : (s[p].toNat = 32 \/ s[p].toNat = 10) -> (aq .add (BT.mk false false false none) true (.int .i64 (p : Nat)) (AV.int .i64 1)).wp K bP (fun di U => Fn.lam 4 (fun vs U => ∃ m', m' < s.length - p /\ Fn.app 4 (fun v0 v6 v7 v8 af => ∃ f p l n7 l7, m' = s.length - p /\ v0 = .str s /\ v8 = .int .i64 (p : Nat) /\ p <= s.length /\ s.length - p <= f /\ l.length <= 900 /\ n7 <= p /\ je f s p l = je s.length s 0 [] /\ Grow af v6 51 3 l.length (ib l) /\ (l = [] -> v6 = .ak) /\ Grow af v7 51 3 n7 l7 /\ (n7 = 0 -> v7 = .ak) /\ Aa v6 v7) vs U) (.str s) v6 v7 di U) (aa R) := fun LA => by
    rw [if_pos LA] at dQ
    rw [cI]
    exact ⟨bp (by omega) (by omega), s.length - (p + 1), by omega, f, p + 1, l, n7, l7, rfl, rfl, by simp, by omega, by omega, Im, by omega, dQ, g6, z6, g7, z7, D⟩
   rw [qv]
   refine ⟨by omega, ?_⟩
   rw [dR, getD_at aL]
   simp only [aV, aj]
   by_cases h32 : s[p].toNat = 32
   · have : ((s[p].toNat : Int) = 32) := by omega
     simp only [this, cj, aS, show (true == false) = false from rfl, aM, bz, hX, aF, if_true, aj, aK]
     exact blank (.inl h32)
   · have : ¬ ((s[p].toNat : Int) = 32) := by omega
     simp only [this, cM, aS, dN, aM, bG, aJ, sn, dR, getD_at aL, aV, aF, bH, if_false, aj]
     refine ⟨by omega, ?_⟩
     by_cases lA : s[p].toNat = 10
     · have : ((s[p].toNat : Int) = 10) := by omega
       simp only [this, cj, aK]
       exact blank (.inr lA)
     · have : ¬ ((s[p].toNat : Int) = 10) := by omega
       simp only [this, cM, aE]
       rw [if_neg (by omega)] at dQ
       rw [qv]
       refine ⟨by omega, ?_⟩
       rw [dR, getD_at aL]
       simp only [aV, aj, aT]
       refine ⟨fun CH => ?_, fun CH => ?_⟩
       · rw [if_pos (by omega)] at dQ
         rw [<- rX] at dQ
         have hnl : ((s.drop p).takeWhile fun c => decide (c.toNat ≠ 10)).length + p <= s.length := by
          have := (rT (fun c : UInt8 => decide (c.toNat ≠ 10)) (l := s.drop p)).length_le
          simp only [List.length_drop] at this; omega
         have u3 : 1 <= ((s.drop p).takeWhile fun c => decide (c.toNat ≠ 10)).length := by
          rw [rX, pn, if_pos (by simpa using lA)]; simp
         refine (KB s p (by omega) (by omega)).go ?_
         generalize ((s.drop p).takeWhile fun c => decide (c.toNat ≠ 10)) = nt at dQ hnl u3 ⊢
         simp only [kV, iY, jU, wp_cond, aj]
         refine ⟨⟨by omega, by omega, by omega⟩, ?_⟩
         refine gz [.int .u8 5, .str _, .int .i64 (p : Nat)] rfl ?_
         rw [dE]
         refine ⟨by omega, ?_⟩
         rw [c6 (o := 0) (s := 3) rfl]
         refine ⟨⟨rfl, rfl, by simp [bB]⟩, ?_⟩
         rw [er]
         refine ⟨rfl, ?_⟩
         refine uc (m := 1) g7 rfl rfl (by omega) (by omega) z7 fun bI v7' k1 k2 k3 => ?_
         obtain ⟨g6', D'⟩ := SU g6 D.symm k2 k3
         simp only [eM, aj, cI]
         exact ⟨bp (by omega) (by omega), s.length - (p + nt.length), by omega, f, p + nt.length, l, n7 + 1, _, rfl, rfl, by simp, by omega, by omega, Im, by omega, dQ, g6', z6, k1, fun h => by omega, D'.symm⟩
       · rw [if_neg (by omega)] at dQ
         rw [<- rX] at dQ
         refine (D7 s p hp (by omega)).go ?_
         cases nK : gx (s.drop p) with
         | mk e kt =>
         obtain ⟨k, tx⟩ := kt
         rw [nK] at dQ
         simp only at dQ
         have cells : ∃ cs, o7 (e, k, tx) p = .aU [.agg cs, .int .i64 e] /\ cs.length = 3 /\ (e = 0 -> cs = jo ⟨k, tx, p⟩) := by
          unfold o7
          by_cases he : e = 0
          · subst he; exact ⟨_, rfl, rfl, fun _ => rfl⟩
          · rw [if_neg he]; exact ⟨_, rfl, rfl, fun h => absurd h he⟩
         obtain ⟨cs, sQ, hc3, XW⟩ := cells
         rw [sQ]
         simp only [bC, List.drop, bq]
         rw [du]
         intro b hb
         rw [cT aW]
         refine ⟨⟨rfl, hc3, by simp⟩, ?_⟩
         have e7 := ((dr.refl bP).new (x := .box [AV.int .u8 0, AV.str [], AV.int .i64 0]) hb).set (x := .box (az [AV.int .u8 0, AV.str [], AV.int .i64 0] 0 (aC (.agg cs)))) hb.1
         have xV : az [AV.int .u8 0, AV.str [], AV.int .i64 0] 0 (aC (.agg cs)) = cs := by
          match cs, hc3 with
          | [x, y, z], _ => rfl
         have Ie : ((bP.new b (.box [AV.int .u8 0, AV.str [], AV.int .i64 0])).set b (.box (az [AV.int .u8 0, AV.str [], AV.int .i64 0] 0 (aC (.agg cs))))).box b = some cs := by rw [bf, xV]
         generalize (bP.new b (.box [AV.int .u8 0, AV.str [], AV.int .i64 0])).set b (.box (az [AV.int .u8 0, AV.str [], AV.int .i64 0] 0 (aC (.agg cs)))) = bI at e7 Ie ⊢
         replace g6 := g6.sO e7
         replace g7 := g7.sO e7
         intro j hj
         have bad : ∀ e' : Int, e' ≠ 0 -> je s.length s 0 [] = .bad p e' -> j (.str s) v6 v7 (.int .i64 (p : Nat)) (.box b 0) (.int .i64 e') bI := fun e' kI hl => by
          refine hj _ _ _ _ _ _ _ ?_
          simp only [cg, aj, kI, cM, dk, aK]
          exact al.mk (QW p e' _ hl)
         have Aj : e = 0 -> l.length ≠ 900 -> j (.str s) v6 v7 (.int .i64 (p : Nat)) (.box b 0) (.int .i64 0) bI := fun he QU => by
          have abL := XW he
          subst abL
          subst he
          rw [if_neg (by simp), if_neg QU] at dQ
          have htl : p + tx.length <= s.length := by
           have := (vA nK).2.length_le
           simp at this; omega
          have Iq := (vA nK).1.1
          have ht1 : 0 < tx.length := List.length_pos_iff.2 Iq
          refine hj _ _ _ _ _ _ _ ?_
          simp only [cg, aj, cj, cC, aE]
          rw [ow Ie]
          refine ⟨by simp [jo], ?_⟩
          rw [dE]
          refine ⟨by omega, ?_⟩
          rw [c6 (o := 0) (s := 3) rfl]
          refine ⟨⟨rfl, rfl, by simp [bB]⟩, ?_⟩
          rw [er]
          refine ⟨rfl, ?_⟩
          refine uc (m := 1) (l2 := jo ⟨k, tx, p⟩) g6 rfl rfl (by omega) (by omega) (fun h => z6 (tk.1 h)) fun bQ v6' k1 k2 k3 => ?_
          obtain ⟨g7', D'⟩ := SU g7 D k2 k3
          have Bi := (kQ g6 k2).1 Ie
          simp only [aR, aj, bW]
          rw [eG Bi]
          simp only [jo, List.drop, bq, eM, aj, cI]
          refine ⟨bp (by omega) (by omega), s.length - (p + tx.length), by omega, f, p + tx.length, l ++ [⟨k, tx, p⟩], n7, l7, rfl, rfl, by simp, by omega, by omega, by simp; omega, by omega, dQ, ?_, fun h => by simp at h, g7', z7, D'⟩
          rw [uG, show (l ++ [(⟨k, tx, p⟩ : Tk)]).length = l.length + 1 by simp]
          simpa [ib] using k1
         have hlen : bD (some false) v6 = .val (.int .i64 l.length) := Lr g6
         simp only [aV, aj, aS, aM]
         by_cases u1 : e = 0
         · subst u1
           simp only [cj, dN, bG, hlen, aJ, aV, aF, if_true, aj, aT]
           refine ⟨fun h => ?_, fun h => Aj rfl (by omega)⟩
           rw [if_neg (by simp), if_pos (by omega)] at dQ
           exact bad 5 (by omega) dQ.symm
         · simp only [u1, cM, show (false == true) = false from rfl, bz, hX, aF, bH, if_false, aj, aE]
           rw [if_pos u1] at dQ
           exact bad e u1 dQ.symm
 · have X0 : s.drop p = [] := List.drop_eq_nil_of_le (by omega)
   have LN : je s.length s 0 [] = .ok l := by
    rw [<- dQ]
    cases f with
    | zero => rfl
    | succ f => simp only [je]; rw [X0]
   exact al.mk (cW l _ _ _ LN g6 z6)
theorem yD (s : aZ) (hs : s.length <= 3000) : Pure K 57 [.str s] (nY (jf s)) := by
 refine Pure.IQ rfl (by cases jf s with | ok l => simp [nY, closed, cL, zu] | bad p e => rfl) fun R hR => ?_
 refine R4 ?_
 unfold T0
 refine (MW s).go ?_
 simp only [bC, List.drop, bq, cg, aj]
 have dQ : jf s = if (pb s).2 ≠ 0 then .bad (pb s).1 (pb s).2 else je s.length s 0 [] := rfl
 by_cases he : (pb s).2 = 0
 · simp only [he, cj, cC, aE]
   rw [if_neg (by simp [he])] at dQ
   rw [dQ] at hR
   refine Vd s hs (fun l v7 v af h1 g z => ?_) fun p e af h1 => ?_
   · simp only [bg, bC, List.drop, bq]
     refine al.mk (hR _ _ ?_)
     rw [h1]
     show AV.aU [resolve 4 af v, .int .i64 0, .int .i64 0] = _
     rw [yz 2 g z]
     rfl
   · simp only [bg, bC, List.drop, bq]
     refine al.mk (hR _ _ ?_)
     rw [h1]; rfl
 · simp only [he, cM, dk, aK]
   rw [if_pos he] at dQ
   refine al.mk (hR _ (bX ⟨.e, 0⟩) ?_)
   rw [dQ]; rfl
end Go.Rip
namespace Go.Rip
open Go.Proofs Go.RowKit
theorem I7 {X : Rx} {r i : Nat} {bad : Bool} {U : St} {R : cS -> St -> Prop} {s : aZ} (hi : i <= X.L.length) (hr : U.box r = some (rr X i bad)) (h : ∀ af, dr U af -> R (.ret (.agg [.int .i64 (bM X.L s.length i), .int .i64 4])) af) : ad K 59 [.box r 0, .str s] U R := by
 refine R6 ?_
 unfold T4
 rw [du]
 intro b hb
 have hY : (U.new b (.box [AV.int .i64 0, AV.int .i64 0])).box b = some [AV.int .i64 0, AV.int .i64 0] := aW
 have e1 := cE hb (x := .box [AV.int .i64 0, AV.int .i64 0])
 have xd := e1.bU hr
 have f1 := hb.1
 generalize U.new b (.box [AV.int .i64 0, AV.int .i64 0]) = bP at *
 refine sk (o := 1) xd rfl ?_
 refine sk (o := 0) xd rfl ?_
 rw [X.tr.len]
 simp only [aJ, bh, aT]
 have fin : ∀ cells af, af = bP -> cells = [AV.int .i64 (bM X.L s.length i), .int .i64 4] -> (aD (some (true, 2)) (.box b 0) (.agg cells) bP).wp K bP (fun _ U => bL (some (true, 2)) (.box b 0) U fun r0 => al R r0 U) (aa R) := by
  rintro cells af rfl rfl
  rw [cT hY]
  refine ⟨⟨rfl, rfl, by simp⟩, ?_⟩
  rw [ny bf]
  refine ⟨by simp [az], ?_⟩
  exact al.mk (h _ (e1.set f1))
 refine ⟨fun aL => ?_, fun gk => ?_⟩
 · obtain ⟨t, ht⟩ : ∃ t, X.L[i]? = some t := ⟨X.L[i]'(by omega), by simp⟩
   refine sk (o := 0) xd rfl ?_
   refine sk (o := 1) xd rfl ?_
   refine YZ (i := i) rfl ht rfl ?_
   refine Xn [.int .i64 t.at_, .int .i64 4] rfl ?_
   exact fin _ _ rfl (by simp [bM, ht])
 · simp only [eM, aj]
   refine gz [.int .i64 s.length, .int .i64 4] rfl ?_
   exact fin _ _ rfl (by simp [bM, l9 (show X.L.length <= i by omega)])
end Go.Rip
