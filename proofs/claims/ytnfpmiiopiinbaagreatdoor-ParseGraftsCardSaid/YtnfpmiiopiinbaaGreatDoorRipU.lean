/- Lemmas for the proof: no conditions. -/
import Derived.Test.YtnfpmiiopiinbaaGreatDoorRipZz
import Derived.Test.YtnfpmiiopiinbaaGreatDoorRipP
import Derived.Test.YtnfpmiiopiinbaaGreatDoorRipS
import Derived.Test.YtnfpmiiopiinbaaGreatDoorRipT
set_option linter.unusedVariables false
set_option linter.unusedSimpArgs false
set_option linter.loopingSimpArgs false
namespace Go.Rip
open Go.Proofs Go.RowKit
theorem gA (b : Bool) : ar (.aR []) b = .bool false := by cases b <;> rfl
theorem Cb (c : UInt8) : Pure K 221 [.int .u8 c.toNat] (.bool (jn c)) := by
 intro U R hR
 refine MJ ?_
 simp (contextual := true) only [MI, oG, ng, aX, bg, fm, dK, dT, ah, aI, aC, jB, bl, a7, av, aA, ga, Ab, aY, bf, aW, bT, ct, ite_true, ite_false, beq_true, beq_false, ca, dt, c7, if_true, if_false, true_and, and_true, not_true, not_false_iff]
 repeat' (first | refine And.intro ?_ ?_ | intro _)
 all_goals (refine ak.eq hR ?_; simp only [jn, AV.bool.injEq])
 all_goals grind
theorem wG (c : UInt8) : Pure K 224 [.int .u8 c.toNat] (.bool (eo c)) := by
 intro U R hR
 refine MP ?_
 simp (contextual := true) only [MO, oG, ng, aX, bg, fm, dK, dT, ah, aI, aC, jB, bl, a7, av, aA, ga, Ab, aY, bf, aW, bT, ct, ite_true, ite_false, beq_true, beq_false, ca, dt, c7, if_true, if_false, true_and, and_true, not_true, not_false_iff]
 repeat' (first | refine And.intro ?_ ?_ | intro _)
 all_goals (refine ak.eq hR ?_; simp only [eo, AV.bool.injEq])
 all_goals grind
theorem KE (c : UInt8) : Pure K 254 [.int .u8 c.toNat] (.bool (jn c || xd c)) := by
 intro U R hR
 refine Nc ?_
 unfold Nb
 refine (Cb c).go ?_
 cases hs : jn c with
 | true =>
   rw [hs] at hR
   simp only [aI, show (true == false) = false from rfl, aC, a7, gA, aA, if_true, ah]
   exact ak.mk hR
 | false =>
   rw [hs] at hR
   simp (contextual := true) only [dG, oG, ng, fm, dT, ah, aI, aC, jB, bl, a7, av, aA, ga, Ab, aY, bT, ct, ite_true, ite_false, beq_true, beq_false, ca, dt, c7, if_true, if_false, true_and, and_true, bo]
   repeat' (first | refine And.intro ?_ ?_ | intro _)
   all_goals (refine ak.eq hR ?_; simp only [xd, AV.bool.injEq])
   all_goals grind
theorem SM {s : bh} {q : UInt8 -> Bool} {p i : Nat} (ZG : p <= i) (hi : i <= s.length) (bm : ∀ j (hj : j < s.length), p <= j -> j < i -> q s[j] = true) (ui : ∀ h : i < s.length, q s[i] = false) : (s.drop p).takeWhile q = (s.take i).drop p := by
 have e : s.drop p = (s.take i).drop p ++ s.drop i := by
  conv => lhs; rw [<- List.take_append_drop i s]
  rw [List.drop_append, List.length_take, Nat.min_eq_left hi, show p - i = 0 by omega, ez]
 have h1 : ((s.take i).drop p).takeWhile q = (s.take i).drop p := pV fun x hx => by
  obtain ⟨j, hj, rfl⟩ := List.getElem_of_mem hx
  simp only [List.length_drop, List.length_take] at hj
  rw [List.getElem_drop, List.getElem_take]
  exact bm (p + j) (by omega) (by omega) (by omega)
 rw [e, List.takeWhile_append, h1]
 simp only [if_true]
 rcases eM i s.length with h | h
 · rw [gy h, nG, ui h]; simp
 · rw [List.drop_eq_nil_of_le h]; simp
theorem Ik (s : bh) (p : Nat) (hp : p <= s.length) (hs : s.length <= 100000) : Pure K 220 [.str s, .int .i64 (p : Nat)] (.str ((s.drop p).takeWhile cZ)) := by
 intro U R hR
 refine MH ?_
 unfold MG
 refine ⟨fun m v0 v1 v5 ae => ∃ i : Nat, m = s.length - i /\ p <= i /\ i <= s.length /\ v0 = .str s /\ v1 = .int .i64 (p : Nat) /\ v5 = .int .i64 i /\ ae = U /\ ∀ j (hj : j < s.length), p <= j -> j < i -> cZ s[j] = true, ⟨_, p, rfl, cX _, hp, rfl, rfl, rfl, rfl, fun j hj h1 h2 => by omega⟩, ?_⟩
 rintro m v0 v1 v5 ae ⟨i, rfl, ZG, hi, rfl, rfl, rfl, rfl, bm⟩
 have fin : (∀ h : i < s.length, cZ s[i] = false) -> (dx true none (.str s) (some (.int .i64 (p : Nat))) (some (.int .i64 (i : Nat)))).wp K ae (fun v28 U => ak R v28 U) (aa R) := fun ui => by
  simp only [l8, eV, fD, wp_cond, ah, dR]
  refine ⟨⟨by omega, by omega, by omega⟩, ?_⟩
  rw [SM ZG hi bm ui] at hR
  exact ak.mk hR
 simp only [ia, ah, bg, aI, aC]
 by_cases aJ : i < s.length
 · have mI : (i : Int) < s.length := by omega
   simp only [mI, bT, dG, bl, av, uL, ga, dR, getD_at aJ]
   refine ⟨by simp, _, KE s[i], ?_⟩
   have step : cZ s[i] = true -> (aj .add (BT.mk false false false none false) true (.int .i64 (i : Nat)) (AV.int .i64 1)).wp K ae (fun v24 U => Fn.lam 3 (fun vs U => ∃ m', m' < s.length - i /\ Fn.app 3 (fun v0 v1 v5 jl => ∃ i : Nat, m' = s.length - i /\ p <= i /\ i <= s.length /\ v0 = .str s /\ v1 = .int .i64 (p : Nat) /\ v5 = .int .i64 i /\ jl = ae /\ ∀ j (hj : j < s.length), p <= j -> j < i -> cZ s[j] = true) vs U) (.str s) (.int .i64 (p : Nat)) v24 U) (aa R) := fun ha => by
    rw [cg]
    refine ⟨aS (by omega) (by omega), s.length - (i + 1), by omega, i + 1, rfl, by omega, by omega, rfl, rfl, by simp, rfl, fun j hj h1 h2 => ?_⟩
    rcases eM j i with h | h
    · exact bm j hj h1 h
    · have : j = i := by omega
      subst this; exact ha
   cases hl : jn s[i] || xd s[i] with
   | true =>
     have ha : cZ s[i] = true := by unfold cZ; rw [Bool.or_assoc, hl]; simp
     simp only [aI, aC, show (true == false) = false from rfl, a7, aA, if_true, av, ah, bf]
     exact step ha
   | false =>
     simp only [aI, aC, dG, bl, uL, av, ga, dR, getD_at aJ]
     refine ⟨by omega, _, wG s[i], ?_⟩
     have ha : cZ s[i] = eo s[i] := by unfold cZ; rw [Bool.or_assoc, hl]; simp
     simp only [aA, bo, if_false, if_true, av, ah]
     cases hd : eo s[i] with
     | true => simp only [bf]; exact step (ha.trans hd)
     | false => simp only [aW]; exact fin fun _ => ha.trans hd
 · have mI : ¬ (i : Int) < s.length := by omega
   simp only [mI, ct, show (false == true) = false from rfl, a7, gA, aA, bo, if_false, av, ah, aC, aW]
   exact fin fun h => absurd h aJ
end Go.Rip
namespace Go.Rip
open Go.Proofs Go.RowKit
theorem KB (c : iQ) (l : List bh) (s : bh) (hn : l.length <= 100000) : Pure K 222 [.vec l.length c (l.map .str), .str s] (.bool (decide (s ∈ l))) := by
 intro U R hR
 refine ML ?_
 unfold MK
 refine ⟨fun m v0 v1 v5 ae => ∃ i : Nat, m = l.length - i /\ i <= l.length /\ v0 = .vec l.length c (l.map .str) /\ v1 = .str s /\ v5 = .int .i64 i /\ ae = U /\ ∀ j, j < i -> l[j]? ≠ some s, ⟨_, 0, rfl, by omega, rfl, rfl, rfl, rfl, fun j hj => by omega⟩, ?_⟩
 rintro m v0 v1 v5 ae ⟨i, rfl, hi, rfl, rfl, rfl, rfl, fT⟩
 simp only [o3, bg, ah, aY]
 refine ⟨fun aJ => ?_, fun fJ => ?_⟩
 · have aJ : i < l.length := by omega
   have hd : (l.map AV.str).drop ((i : Int).toNat * 1) = .str l[i] :: (l.map AV.str).drop (i + 1) := by
    rw [dR, Nat.mul_one, gy (by simpa using aJ)]; simp
   rw [wR]
   refine ⟨by omega, ?_⟩
   rw [hd, mg, bM]
   simp only [iB, ah, aY]
   refine ⟨fun he => ?_, fun bW => ?_⟩
   · refine ak.eq hR ?_
     have : s ∈ l := he ▸ pU aJ
     simp [this]
   · rw [cg]
     refine ⟨aS (by omega) (by omega), l.length - (i + 1), by omega, i + 1, rfl, by omega, rfl, rfl, by simp, rfl, fun j hj => ?_⟩
     rcases eM j i with h | h
     · exact fT j h
     · have : j = i := by omega
       subst this
       rw [js aJ]; simpa using bW
 · refine ak.eq hR ?_
   have : s ∉ l := fun hm => by
    obtain ⟨j, hj, he⟩ := List.getElem_of_mem hm
    exact fT j (by omega) (by rw [js hj, he])
   simp [this]
theorem OX (s w : bh) (p : Nat) (hp : p <= s.length) (hs : s.length <= 100000) (hw : w.length <= 100000) : Pure K 227 [.str s, .int .i64 (p : Nat), .str w] (.bool (w.isPrefixOf (s.drop p))) := by
 intro U R hR
 refine MV ?_
 unfold MU
 simp only [ia, ah, Iz, dT, aI, aC]
 refine ⟨aS (by omega) (by omega), ?_⟩
 by_cases hl : (w.length : Int) <= (s.length : Int) - (p : Int)
 · simp only [hl, bT, dG, bl, av, ga, ia, sa]
   refine ⟨aS (by omega) (by omega), ?_⟩
   simp only [l8, eV, fD, fN, av, dR]
   refine ⟨⟨by omega, by omega, by omega⟩, ?_⟩
   simp only [iB, av, aA, if_true, ah]
   refine ak.eq hR ?_
   have e : ((p : Int) + (w.length : Int)).toNat = p + w.length := by omega
   rw [e]
   have e2 : (s.take (p + w.length)).drop p = (s.drop p).take w.length := by rw [List.drop_take]; congr 1; omega
   rw [e2]
   congr 1
   rw [lY, c7, List.isPrefixOf_iff_prefix, List.prefix_iff_eq_take]
   exact eq_comm
 · simp only [hl, ct, show (false == true) = false from rfl, a7, aA, bo, if_false, ah]
   refine ak.eq hR ?_
   congr 1
   rw [eq_comm, Bool.eq_false_iff]
   intro h
   have := (List.isPrefixOf_iff_prefix.1 h).length_le
   simp at this
   omega
end Go.Rip
namespace Go.Rip
open Go.Proofs Go.RowKit
theorem Jo {s : bh} (h : 0 < s.length) : s.head? = some s[0] := by
 cases s with
 | nil => simp at h
 | cons c r => rfl
theorem KF (s : bh) (hs : s.length <= 100000) : Pure K 225 [.str s] (.int .i64 (ja s)) := by
 intro U R hR
 refine MR ?_
 unfold MQ
 refine ⟨fun m v0 v3 v4 ae => ∃ i : Nat, m = s.length - i /\ i <= s.length /\ v0 = .str s /\ v3 = .int .i64 (gu 0 (s.take i)) /\ v4 = .int .i64 i /\ ae = U /\ (s.take i).all eo = true /\ (1 < i -> s.head? ≠ some 48), ⟨s.length, 0, by simp [Fn.app, gu]⟩, ?_⟩
 rintro m v0 v3 v4 ae ⟨i, rfl, hi, rfl, rfl, rfl, rfl, bm, hh⟩
 have hb := AW (s.take i) 0 (by omega)
 have ve := qA (s.take i) 0 bm (by omega)
 simp only [ia, ah, bg, aY]
 refine ⟨fun aJ => ?_, fun fJ => ?_⟩
 · have aJ : i < s.length := by omega
   rw [u4]
   refine ⟨by omega, ?_⟩
   rw [dR, getD_at aJ]
   refine (wG s[i]).go ?_
   have fp : s.take (i + 1) = s.take i ++ [s[i]] := by rw [nH, js aJ]; rfl
   have h0 : s.getD (0 : Int).toNat 0 = s[0] := getD_at (by omega)
   have Zp := Jo (s := s) (by omega)
   simp only [c8, ah]
   cases hd : eo s[i] with
   | false =>
     simp only [dt, aI, show (true == false) = false from rfl, aC, a7, gA, aA, if_true, ah, bf]
     refine ak.eq hR ?_
     have : s.all eo = false := by
      rw [Bool.eq_false_iff]
      intro h
      rw [ef] at h
      rw [h s[i] (pU aJ)] at hd
      cases hd
     simp [ja, this]
   | true =>
     have hc := kn.1 hd
     have step : (1 < i + 1 -> s.head? ≠ some 48) -> (aj .mul (BT.mk false false false none false) true (AV.int .i64 10) (.int .i64 (gu 0 (s.take i)))).wp K ae (fun dE U =>
      (eE true none none (.str s) (.int .i64 (i : Nat))).wp K U (fun cC U =>
      (aj .sub (BT.mk false false false none false) true cC (AV.int .u8 48)).wp K U (fun v30 U =>
      (ua (some .i64) true false false v30).wp K U (fun v31 U =>
      (aj .add (BT.mk false false false none false) false dE v31).wp K U (fun fG U =>
      (sG fG (AV.int .i64 1000001)).wp K U (fun dP U =>
      (aj .add (BT.mk false false false none false) true (.int .i64 (i : Nat)) (AV.int .i64 1)).wp K U (fun v10 U =>
      Fn.lam 3 (fun vs U => ∃ m', m' < s.length - i /\ Fn.app 3 (fun v0 v3 v4 jl => ∃ i : Nat, m' = s.length - i /\ i <= s.length /\ v0 = .str s /\ v3 = .int .i64 (gu 0 (s.take i)) /\ v4 = .int .i64 i /\ jl = ae /\ (s.take i).all eo = true /\ (1 < i -> s.head? ≠ some 48)) vs U) (.str s) dP v10 U) (aa R)) (aa R)) (aa R)) (aa R)) (aa R)) (aa R)) (aa R) := fun Zo => by
      rw [RG]
      refine ⟨aS (by omega) (by omega), ?_⟩
      rw [u4]
      refine ⟨by omega, ?_⟩
      rw [dR, getD_at aJ]
      have hw : IntKind.u8.wrap ((s[i].toNat : Int) - 48) = (s[i].toNat : Int) - 48 := by
       show ((s[i].toNat : Int) - 48) % 256 = _
       omega
      simp only [dU, CX, ah, hw, ua, wp_cond, cg, Gx]
      refine ⟨aS (by omega) (by omega), aS (by omega) (by omega), aS (by omega) (by omega), ?_⟩
      refine ⟨s.length - (i + 1), by omega, i + 1, rfl, by omega, rfl, ?_, by simp, rfl, ?_, Zo⟩
      · rw [B6 aJ]
        congr 1
        omega
      · rw [fp, List.all_append, bm]; simp [hd]
     simp only [ca, aI, dG, aC, bl, av, dK, ga]
     by_cases BA : 0 < i
     · have : ((i : Int) > 0) := by omega
       simp only [show ((0 : Int) < (i : Nat)) from this, bT, dG, bl, av, uL, h0, aX, ga, aA, bo, if_false, if_true, ah, aY]
       refine ⟨⟨by omega, by omega⟩, fun By => ?_, fun By => ?_⟩
       · refine ak.eq hR ?_
         have UD : s[0] = 48 := UInt8.toNat_inj.1 (show s[0].toNat = (48 : UInt8).toNat by show s[0].toNat = 48; omega)
         have h1 : 1 < s.length := by omega
         by_cases ha : s.all eo = false
         · simp [ja, ha]
         · simp [ja, ha, Zp, UD, h1]
       · refine step fun _ h => By ?_
         rw [Zp] at h
         have : s[0] = 48 := by simpa using h
         rw [this]; rfl
     · have : ¬ ((0 : Int) < (i : Nat)) := by omega
       simp only [this, ct, show (false == true) = false from rfl, a7, gA, aA, bo, if_false, av, ah, aW]
       exact step fun h => by omega
 · have hi : i = s.length := by omega
   subst hi
   rw [oI] at bm hb ve ⊢
   have hv : AX s = gu 0 s := rfl
   simp only [dK, ah, aY]
   have hn : ¬ (1 < s.length /\ s.head? = some 48) := fun h => hh h.1 h.2
   refine ⟨fun hm => ?_, fun hm => ?_⟩
   · refine ak.eq hR ?_
     simp only [ja, bm, hn, hv, if_false, Bool.true_eq_false]
     rw [if_pos (by omega)]
   · refine ak.eq hR ?_
     simp only [ja, bm, hn, hv, if_false, Bool.true_eq_false]
     rw [if_neg (by omega)]
end Go.Rip
namespace Go.Rip
open Go.Proofs Go.RowKit
def NZ : (Nat -> Option (Nat × Nat)) -> List (Nat × AV) -> List AV -> Option (List AV)
 | _, [], z => some z
 | pl, (i, x) :: rest, z => match pl i with
   | some (o, s) => if x.cQ = true /\ (ay x).length = s /\ o + s <= z.length then NZ pl rest (aB z o (ay x)) else none
   | none => none
theorem vF {U : St} {K' : AV -> St -> Prop} {Kp : AV -> St -> Prop} {n m : Nat} : ∀ {pl : Nat -> Option (Nat × Nat)} {ps : List (Nat × AV)} {z zs : List AV}, NZ pl ps z = some zs -> zs.length = m -> K' (.vec n .full zs) U -> (eW pl ps z fun cs => .cond (cs.length = m) (.val (.vec n .full cs))).wp K U K' Kp
 | pl, [], z, zs, h, hm, hk => by cases h; rw [gM]; exact ⟨hm, hk⟩
 | pl, (i, x) :: rest, z, zs, h, hm, hk => by
   simp only [NZ] at h
   split at h
   · rename_i o s e
     split at h
     · rename_i hc; rw [eO e]; exact ⟨hc, vF h hm hk⟩
     · cases h
   · cases h
theorem Wm {U : St} {R : cD -> St -> Prop} (h : R (.ret (.vec kG.length .full (kG.map .str))) U) : af K 223 [] U R := by
 refine MN ?_
 unfold MM
 rw [fC]
 refine ⟨by omega, ?_⟩
 exact vF (zs := kG.map .str) (by kernel_rfl) (by rfl) (ak.mk h)
theorem Wo {U : St} {R : cD -> St -> Prop} (h : R (.ret (.vec fP.length .full (fP.map .str))) U) : af K 226 [] U R := by
 refine MT ?_
 unfold MS
 rw [fC]
 refine ⟨by omega, ?_⟩
 exact vF (zs := fP.map .str) (by kernel_rfl) (by rfl) (ak.mk h)
def py (t : Int × Nat × bh) (p : Nat) : AV := if t.1 = 0 then .aR [.agg [.int .u8 t.2.1, .str t.2.2, .int .i64 p], .int .i64 0] else .aR [.agg [.int .u8 0, .str [], .int .i64 0], .int .i64 t.1]
theorem GR : ∀ x ∈ fP, x ≠ [] /\ x.length <= 10 /\ ∀ d ∈ x.head?, cZ d = false := by decide
theorem O3 {c : UInt8} {r : bh} (h : cZ c = true) : nK (c :: r) = (4, 0, []) := by
 have : fP.find? (fun x => x.isPrefixOf (c :: r)) = none := by
  rw [List.find?_eq_none]
  intro x hx hp
  obtain ⟨h1, _, h2⟩ := GR x hx
  cases x with
  | nil => exact h1 rfl
  | cons d y =>
    have hp := List.isPrefixOf_iff_prefix.1 hp
    have := (List.cons_prefix_cons.1 hp).1
    subst this
    rw [h2 d rfl] at h; cases h
 unfold nK
 rw [this]
theorem KG (s : bh) (p : Nat) (hp : p <= s.length) (hs : s.length <= 100000) : Pure K 172 [.str s, .int .i64 (p : Nat)] (py (fQ (s.drop p)) p) := by
 refine Pure.of rfl (by unfold py; split <;> rfl) (fun U => by unfold py; split <;> rfl) fun R hR => ?_
 refine Mg ?_
 unfold Mf
 rw [cN]
 intro b hb
 generalize lE : (bD _).new b _ = U
 have eH : U.box b = some [AV.int .u8 0, AV.str [], AV.int .i64 0] := by rw [<- lE]; exact aN
 clear lE hb
 refine (Ik s p hp hs).go ?_
 have fin : ∀ (cells : List AV) (e : Int) (ps : List (Nat × AV)) (ae : St), ae.box b = some [AV.int .u8 0, AV.str [], AV.int .i64 0] -> vG [(0, 1), (1, 1), (2, 1)] ps [AV.int .u8 0, AV.str [], AV.int .i64 0] = some cells -> cells.length = 3 -> py (fQ (s.drop p)) p = .aR [.agg cells, .int .i64 e] ->
  (dj (some [(0, 1), (1, 1), (2, 1)]) (some [AV.int .u8 0, AV.str [], AV.int .i64 0]) none ps).wp K ae (fun v U => (aL (some (true, 3)) (.box b 0) v U).wp K U (fun _ U => br (some (true, 3)) (.box b 0) U fun r0 => ak R (.aR [r0, .int .i64 e]) U) (aa R)) (aa R) := by
  intro cells e ps ae dm h1 hc h2
  refine oQ _ h1 ?_
  rw [cI dm]
  have zE : aB [AV.int .u8 0, AV.str [], AV.int .i64 0] 0 (ay (.agg cells)) = cells := by
   match cells, hc with
   | [x, y, z], _ => rfl
  refine ⟨⟨rfl, hc, by simp⟩, ?_⟩
  rw [lF aT, zE]
  refine ⟨by simp [hc], ?_⟩
  rw [h2] at hR
  refine ak.eq (hR _) ?_
  rw [ez, o7 (by omega)]
 have Rj : fQ (s.drop p) = nK (s.drop p) -> af K 226 [] U (ax (fun v51 U =>
  cK 5 [.str s, .int .i64 (p : Nat), .box b 0, v51, (AV.int .i64 0)] U fun lp v0 v1 dN v8 v9 U =>
   (bz (some false) v8).wp K U (fun kj U =>
   (aj .lss (BT.mk false false false none false) false v9 kj).wp K U (fun iI U =>
   aq iI (
    (aF (some (9, 1)) none v8 v9).wp K U (fun tK U =>
    (ao (some (false, 1)) tK U).wp K U (fun rm U =>
    af K 227 [v0, v1, rm] U (ax (fun mb U =>
    aq mb (
     (aF (some (9, 1)) none v8 v9).wp K U (fun oV U =>
     (ao (some (false, 1)) oV U).wp K U (fun oN U =>
     (dj (some [(0, 1), (1, 1), (2, 1)]) (some [AV.int .u8 0, AV.str [], AV.int .i64 0]) none [(0, (AV.int .u8 4)), (1, oN), (2, v1)]).wp K U (fun v70 U =>
     (aL (some (true, 3)) dN v70 U).wp K U (fun _ U =>
     br (some (true, 3)) dN U fun yJ =>
     ak R (AV.aR [yJ, (AV.int .i64 0)]) U) (aa R)) (aa R)) (aa R)) (aa R)) (
     (aj .add (BT.mk false false false none false) true v9 (AV.int .i64 1)).wp K U (fun ky U =>
     lp v0 v1 dN v8 ky U) (aa R))) (aa R))) (aa R)) (aa R)) (
    (dj (some [(0, 1), (1, 1), (2, 1)]) (some [AV.int .u8 0, AV.str [], AV.int .i64 0]) none []).wp K U (fun rn U =>
    (aL (some (true, 3)) dN rn U).wp K U (fun _ U =>
    br (some (true, 3)) dN U fun Eo =>
    ak R (AV.aR [Eo, (AV.int .i64 4)]) U) (aa R)) (aa R))) (aa R)) (aa R)) (aa R)) := fun oT => by
  refine Wo ?_
  simp only [bA]
  refine ⟨fun m v0 v1 v4 v8 v9 ae => ∃ k : Nat, m = fP.length - k /\ k <= fP.length /\ v0 = .str s /\ v1 = .int .i64 (p : Nat) /\ v4 = .box b 0 /\ v8 = .vec fP.length .full (fP.map .str) /\ v9 = .int .i64 (k : Nat) /\ ae = U /\ ∀ j, j < k -> ∀ y, fP[j]? = some y -> y.isPrefixOf (s.drop p) = false,
   ⟨_, 0, rfl, by omega, rfl, rfl, rfl, rfl, rfl, rfl, fun j hj => by omega⟩, ?_⟩
  rintro m v0 v1 v4 v8 v9 ae ⟨k, rfl, hk, rfl, rfl, rfl, rfl, rfl, rfl, fT⟩
  have mX : fP.length = 16 := rfl
  simp only [o3, bg, ah, aY]
  refine ⟨fun aJ => ?_, fun fJ => ?_⟩
  · have aJ : k < fP.length := by omega
    have hd : (fP.map AV.str).drop ((k : Int).toNat * 1) = .str fP[k] :: (fP.map AV.str).drop (k + 1) := by
     rw [dR, Nat.mul_one, gy (by simpa using aJ)]; simp
    rw [wR]
    refine ⟨by omega, ?_⟩
    rw [hd, mg, bM]
    have hg : fP[k]? = some fP[k] := js aJ
    have kU := (GR fP[k] (pU aJ)).2.1
    refine (OX s fP[k] p hp hs (by omega)).go ?_
    cases ZH : fP[k].isPrefixOf (s.drop p) with
    | true =>
      simp only [bf]
      rw [wR]
      refine ⟨by omega, ?_⟩
      rw [hd, mg, bM]
      refine fin _ 0 _ _ eH rfl rfl ?_
      rw [oT]
      unfold nK
      rw [I9 fT hg ZH]
      rfl
    | false =>
      simp only [aW, cg]
      refine ⟨aS (by omega) (by omega), fP.length - (k + 1), by omega, k + 1, rfl, by omega, rfl, rfl, rfl, rfl, by simp, rfl, fun j hj y hy => ?_⟩
      rcases eM j k with h | h
      · exact fT j h y hy
      · have : j = k := by omega
        subst this
        rw [hg] at hy; cases hy; exact ZH
  · have vi : k = fP.length := by omega
    refine fin _ 4 _ _ eH rfl rfl ?_
    rw [oT]
    unfold nK
    rw [Oe (by subst vi; exact fT)]
    rfl
 have mJ : fQ (s.drop p) = match (s.drop p).takeWhile cZ with
  | [] => nK (s.drop p)
  | c :: r => if eo c then (ja (c :: r), 2, c :: r) else if jn c = false then (4, 0, []) else if (c :: r) ∈ kG then (0, 3, c :: r) else if 12 < (c :: r).length then (4, 0, []) else (0, 1, c :: r) := by
  unfold fQ nK
  simp only
  cases (s.drop p).takeWhile cZ <;> rfl
 have zH : ((s.drop p).takeWhile cZ).length <= 100000 := by
  have := (ri cZ (l := s.drop p)).length_le
  simp at this; omega
 have zG : ∀ c r, (s.drop p).takeWhile cZ = c :: r -> cZ c = true /\ ∃ r', s.drop p = c :: r' := fun c r h => by
  cases hd : s.drop p with
  | nil => rw [hd] at h; simp at h
  | cons d t =>
    rw [hd, nG] at h
    split at h
    · rename_i hc; cases h; exact ⟨hc, t, rfl⟩
    · cases h
 cases hw : (s.drop p).takeWhile cZ with
 | nil =>
   rw [hw] at mJ
   simp only [jI, show w_ = ([] : List UInt8) from rfl, bT, ca, ah, aI, aC, show (false == true) = false from rfl, a7, aA, bo, if_false, aW]
   exact Rj mJ
 | cons c r =>
   rw [hw] at mJ zH
   obtain ⟨hca, r', vY⟩ := zG c r hw
   have bW : ¬ (c :: r = w_) := by simp [show w_ = ([] : List UInt8) from rfl]
   simp only [jI, bW, ct, dt, ah, aI, aC, dG, bl, av, uL, ga]
   refine ⟨by simp, _, Cb c, ?_⟩
   simp only [av, aA, if_true, ah]
   cases kU : jn c with
   | true =>
     have Qg : eo c = false := by
      unfold jn at kU; unfold eo
      have h97 := of_decide_eq_true kU
      rw [decide_eq_false_iff_not]
      omega
     simp only [bf]
     simp only [Qg, kU, bo, if_false, Bool.true_eq_false] at mJ
     refine Wm ?_
     simp only [bA]
     refine (KB .full kG (c :: r) (by decide)).go ?_
     by_cases hk : (c :: r) ∈ kG
     · simp only [hk, bT, bf]
       rw [if_pos hk] at mJ
       exact fin _ 0 _ _ eH rfl rfl (by rw [mJ]; rfl)
     · simp only [hk, ct, aW, ia, dK, ah, aY]
       rw [if_neg hk] at mJ
       refine ⟨fun h => ?_, fun h => ?_⟩
       · rw [if_pos (by omega)] at mJ
         exact fin _ 4 _ _ eH rfl rfl (by rw [mJ]; rfl)
       · rw [if_neg (by omega)] at mJ
         exact fin _ 0 _ _ eH rfl rfl (by rw [mJ]; rfl)
   | false =>
     simp only [aW]
     refine ⟨by simp, _, wG c, ?_⟩
     simp only [av, aA, if_true, ah]
     cases Qg : eo c with
     | true =>
       simp only [bf]
       simp only [Qg, if_true] at mJ
       refine (KF (c :: r) zH).go ?_
       simp only [cM, ah]
       by_cases he : ja (c :: r) = 0
       · simp only [he, bT, ca, aW]
         exact fin _ 0 _ _ eH rfl rfl (by rw [mJ]; simp [py, he]; rfl)
       · simp only [he, ct, dt, bf]
         exact fin _ _ _ _ eH rfl rfl (by rw [mJ]; simp [py, he])
     | false =>
       simp only [aW]
       simp only [Qg, kU, bo, if_false, if_true] at mJ
       refine Rj ?_
       rw [mJ, vY, O3 hca]
end Go.Rip
namespace Go.Rip
open Go.Proofs Go.RowKit
def NP (v w : AV) : Prop := ∀ τ n l n' l', v = .vec n (.own τ) l -> w = .vec n' (.own τ) l' -> False
theorem NP.symm {v w : AV} (h : NP v w) : NP w v := fun τ n l n' l' h1 h2 => h τ n' l' n l h2 h1
theorem Grow.pD {U ae : St} {v : AV} {e sz n : Nat} {l : List AV} (g : Grow U v e sz n l) (h : cL U ae) : Grow ae v e sz n l := by
 rcases g with g | ⟨τ, h1, h2, h3⟩
 · exact .inl g
 · exact .inr ⟨τ, h1, h.tok h2, h3⟩
end Go.Rip
