/- Lemmas for the proof: no conditions. -/
import Derived.Test.YtnfpmiiopiinbaaGreatDoorRipZz
import Derived.Test.YtnfpmiiopiinbaaGreatDoorRipP
import Derived.Test.YtnfpmiiopiinbaaGreatDoorRipS
import Derived.Test.YtnfpmiiopiinbaaGreatDoorRipT
set_option linter.unusedVariables false
set_option linter.unusedSimpArgs false
set_option linter.loopingSimpArgs false
namespace Go.Rip
open Go.Proofs Go.RowKit
theorem gj (b : Bool) : aq (.aO []) b = .bool false := by cases b <;> rfl
theorem Bz (c : UInt8) : Pure K 221 [.int .u8 c.toNat] (.bool (iQ c)) := by
 intro U R hR
 refine LR ?_
 simp (contextual := true) only [LQ, n6, mK, aR, bj, eK, dY, dG, ai, aI, aB, jk, bl, a8, au, ay, fQ, zq, aW, bf, aU, bM, bZ, ite_true, ite_false, beq_true, beq_false, bU, cZ, cL, if_true, if_false, true_and, and_true, not_true, not_false_iff]
 repeat' (first | refine And.intro ?_ ?_ | intro _)
 all_goals (refine aj.eq hR ?_; simp only [iQ, AV.bool.injEq])
 all_goals grind
theorem vP (c : UInt8) : Pure K 224 [.int .u8 c.toNat] (.bool (dS c)) := by
 intro U R hR
 refine LY ?_
 simp (contextual := true) only [LX, n6, mK, aR, bj, eK, dY, dG, ai, aI, aB, jk, bl, a8, au, ay, fQ, zq, aW, bf, aU, bM, bZ, ite_true, ite_false, beq_true, beq_false, bU, cZ, cL, if_true, if_false, true_and, and_true, not_true, not_false_iff]
 repeat' (first | refine And.intro ?_ ?_ | intro _)
 all_goals (refine aj.eq hR ?_; simp only [dS, AV.bool.injEq])
 all_goals grind
theorem JN (c : UInt8) : Pure K 254 [.int .u8 c.toNat] (.bool (iQ c || wo c)) := by
 intro U R hR
 refine Mo ?_
 unfold Mn
 refine (Bz c).go ?_
 cases hs : iQ c with
 | true =>
   rw [hs] at hR
   simp only [aI, show (true == false) = false from rfl, aB, a8, gj, ay, if_true, ai]
   exact aj.mk hR
 | false =>
   rw [hs] at hR
   simp (contextual := true) only [du, n6, mK, eK, dG, ai, aI, aB, jk, bl, a8, au, ay, fQ, zq, aW, bM, bZ, ite_true, ite_false, beq_true, beq_false, bU, cZ, cL, if_true, if_false, true_and, and_true, bm]
   repeat' (first | refine And.intro ?_ ?_ | intro _)
   all_goals (refine aj.eq hR ?_; simp only [wo, AV.bool.injEq])
   all_goals grind
theorem Si {s : bg} {q : UInt8 -> Bool} {p i : Nat} (Zk : p <= i) (hi : i <= s.length) (bq : ∀ j (hj : j < s.length), p <= j -> j < i -> q s[j] = true) (tq : ∀ h : i < s.length, q s[i] = false) : (s.drop p).takeWhile q = (s.take i).drop p := by
 have e : s.drop p = (s.take i).drop p ++ s.drop i := by
  conv => lhs; rw [<- List.take_append_drop i s]
  rw [List.drop_append, List.length_take, Nat.min_eq_left hi, show p - i = 0 by omega, ej]
 have h1 : ((s.take i).drop p).takeWhile q = (s.take i).drop p := po fun x hx => by
  obtain ⟨j, hj, rfl⟩ := List.getElem_of_mem hx
  simp only [List.length_drop, List.length_take] at hj
  rw [List.getElem_drop, List.getElem_take]
  exact bq (p + j) (by omega) (by omega) (by omega)
 rw [e, List.takeWhile_append, h1]
 simp only [if_true]
 rcases eG i s.length with h | h
 · rw [gp h, nh, tq h]; simp
 · rw [List.drop_eq_nil_of_le h]; simp
theorem Hs (s : bg) (p : Nat) (hp : p <= s.length) (hs : s.length <= 100000) : Pure K 220 [.str s, .int .i64 (p : Nat)] (.str ((s.drop p).takeWhile cK)) := by
 intro U R hR
 refine LP ?_
 unfold LO
 refine ⟨fun m v0 v1 v5 ae => ∃ i : Nat, m = s.length - i /\ p <= i /\ i <= s.length /\ v0 = .str s /\ v1 = .int .i64 (p : Nat) /\ v5 = .int .i64 i /\ ae = U /\ ∀ j (hj : j < s.length), p <= j -> j < i -> cK s[j] = true, ⟨_, p, rfl, de _, hp, rfl, rfl, rfl, rfl, fun j hj h1 h2 => by omega⟩, ?_⟩
 rintro m v0 v1 v5 ae ⟨i, rfl, Zk, hi, rfl, rfl, rfl, rfl, bq⟩
 have fin : (∀ h : i < s.length, cK s[i] = false) -> (dU true none (.str s) (some (.int .i64 (p : Nat))) (some (.int .i64 (i : Nat)))).wp K ae (fun v28 U => aj R v28 U) (aa R) := fun tq => by
  simp only [lG, gA, fo, wp_cond, ai, dC]
  refine ⟨⟨by omega, by omega, by omega⟩, ?_⟩
  rw [Si Zk hi bq tq] at hR
  exact aj.mk hR
 simp only [gO, ai, bj, aI, aB]
 by_cases aJ : i < s.length
 · have mi : (i : Int) < s.length := by omega
   simp only [mi, bM, du, bl, au, tV, fQ, dC, getD_at aJ]
   refine ⟨by simp, _, JN s[i], ?_⟩
   have step : cK s[i] = true -> (ak .add (BT.mk false false false none false) true (.int .i64 (i : Nat)) (AV.int .i64 1)).wp K ae (fun v24 U => Fn.lam 3 (fun vs U => ∃ m', m' < s.length - i /\ Fn.app 3 (fun v0 v1 v5 kz => ∃ i : Nat, m' = s.length - i /\ p <= i /\ i <= s.length /\ v0 = .str s /\ v1 = .int .i64 (p : Nat) /\ v5 = .int .i64 i /\ kz = ae /\ ∀ j (hj : j < s.length), p <= j -> j < i -> cK s[j] = true) vs U) (.str s) (.int .i64 (p : Nat)) v24 U) (aa R) := fun ha => by
    rw [cn]
    refine ⟨aX (by omega) (by omega), s.length - (i + 1), by omega, i + 1, rfl, by omega, by omega, rfl, rfl, by simp, rfl, fun j hj h1 h2 => ?_⟩
    rcases eG j i with h | h
    · exact bq j hj h1 h
    · have : j = i := by omega
      subst this; exact ha
   cases hl : iQ s[i] || wo s[i] with
   | true =>
     have ha : cK s[i] = true := by unfold cK; rw [Bool.or_assoc, hl]; simp
     simp only [aI, aB, show (true == false) = false from rfl, a8, ay, if_true, au, ai, bf]
     exact step ha
   | false =>
     simp only [aI, aB, du, bl, tV, au, fQ, dC, getD_at aJ]
     refine ⟨by omega, _, vP s[i], ?_⟩
     have ha : cK s[i] = dS s[i] := by unfold cK; rw [Bool.or_assoc, hl]; simp
     simp only [ay, bm, if_false, if_true, au, ai]
     cases hd : dS s[i] with
     | true => simp only [bf]; exact step (ha.trans hd)
     | false => simp only [aU]; exact fin fun _ => ha.trans hd
 · have mi : ¬ (i : Int) < s.length := by omega
   simp only [mi, bZ, show (false == true) = false from rfl, a8, gj, ay, bm, if_false, au, ai, aB, aU]
   exact fin fun h => absurd h aJ
end Go.Rip
namespace Go.Rip
open Go.Proofs Go.RowKit
theorem JL (c : iW) (l : List bg) (s : bg) (hn : l.length <= 100000) : Pure K 222 [.vec l.length c (l.map .str), .str s] (.bool (decide (s ∈ l))) := by
 intro U R hR
 refine LU ?_
 unfold LS
 refine ⟨fun m v0 v1 v5 ae => ∃ i : Nat, m = l.length - i /\ i <= l.length /\ v0 = .vec l.length c (l.map .str) /\ v1 = .str s /\ v5 = .int .i64 i /\ ae = U /\ ∀ j, j < i -> l[j]? ≠ some s, ⟨_, 0, rfl, by omega, rfl, rfl, rfl, rfl, fun j hj => by omega⟩, ?_⟩
 rintro m v0 v1 v5 ae ⟨i, rfl, hi, rfl, rfl, rfl, rfl, fF⟩
 simp only [oA, bj, ai, aW]
 refine ⟨fun aJ => ?_, fun gn => ?_⟩
 · have aJ : i < l.length := by omega
   have hd : (l.map AV.str).drop ((i : Int).toNat * 1) = .str l[i] :: (l.map AV.str).drop (i + 1) := by
    rw [dC, Nat.mul_one, gp (by simpa using aJ)]; simp
   rw [AG]
   refine ⟨by omega, ?_⟩
   rw [hd, og, bB]
   simp only [ic, ai, aW]
   refine ⟨fun he => ?_, fun cm => ?_⟩
   · refine aj.eq hR ?_
     have : s ∈ l := he ▸ qE aJ
     simp [this]
   · rw [cn]
     refine ⟨aX (by omega) (by omega), l.length - (i + 1), by omega, i + 1, rfl, by omega, rfl, rfl, by simp, rfl, fun j hj => ?_⟩
     rcases eG j i with h | h
     · exact fF j h
     · have : j = i := by omega
       subst this
       rw [iY aJ]; simpa using cm
 · refine aj.eq hR ?_
   have : s ∉ l := fun hm => by
    obtain ⟨j, hj, he⟩ := List.getElem_of_mem hm
    exact fF j (by omega) (by rw [iY hj, he])
   simp [this]
theorem N4 (s w : bg) (p : Nat) (hp : p <= s.length) (hs : s.length <= 100000) (hw : w.length <= 100000) : Pure K 227 [.str s, .int .i64 (p : Nat), .str w] (.bool (w.isPrefixOf (s.drop p))) := by
 intro U R hR
 refine L9 ?_
 unfold L7
 simp only [gO, ai, Rc, dG, aI, aB]
 refine ⟨aX (by omega) (by omega), ?_⟩
 by_cases hl : (w.length : Int) <= (s.length : Int) - (p : Int)
 · simp only [hl, bM, du, bl, au, fQ, gO, tU]
   refine ⟨aX (by omega) (by omega), ?_⟩
   simp only [lG, gA, fo, gD, au, dC]
   refine ⟨⟨by omega, by omega, by omega⟩, ?_⟩
   simp only [ic, au, ay, if_true, ai]
   refine aj.eq hR ?_
   have e : ((p : Int) + (w.length : Int)).toNat = p + w.length := by omega
   rw [e]
   have e2 : (s.take (p + w.length)).drop p = (s.drop p).take w.length := by rw [List.drop_take]; congr 1; omega
   rw [e2]
   congr 1
   rw [lE, cL, List.isPrefixOf_iff_prefix, List.prefix_iff_eq_take]
   exact eq_comm
 · simp only [hl, bZ, show (false == true) = false from rfl, a8, ay, bm, if_false, ai]
   refine aj.eq hR ?_
   congr 1
   rw [eq_comm, Bool.eq_false_iff]
   intro h
   have := (List.isPrefixOf_iff_prefix.1 h).length_le
   simp at this
   omega
end Go.Rip
namespace Go.Rip
open Go.Proofs Go.RowKit
theorem Is {s : bg} (h : 0 < s.length) : s.head? = some s[0] := by
 cases s with
 | nil => simp at h
 | cons c r => rfl
theorem JO (s : bg) (hs : s.length <= 100000) : Pure K 225 [.str s] (.int .i64 (iC s)) := by
 intro U R hR
 refine L0 ?_
 unfold LZ
 refine ⟨fun m v0 v3 v4 ae => ∃ i : Nat, m = s.length - i /\ i <= s.length /\ v0 = .str s /\ v3 = .int .i64 (gg 0 (s.take i)) /\ v4 = .int .i64 i /\ ae = U /\ (s.take i).all dS = true /\ (1 < i -> s.head? ≠ some 48), ⟨s.length, 0, by simp [Fn.app, gg]⟩, ?_⟩
 rintro m v0 v3 v4 ae ⟨i, rfl, hi, rfl, rfl, rfl, rfl, bq, hh⟩
 have hb := Al (s.take i) 0 (by omega)
 have uy := pU (s.take i) 0 bq (by omega)
 simp only [gO, ai, bj, aW]
 refine ⟨fun aJ => ?_, fun gn => ?_⟩
 · have aJ : i < s.length := by omega
   rw [um]
   refine ⟨by omega, ?_⟩
   rw [dC, getD_at aJ]
   refine (vP s[i]).go ?_
   have eY : s.take (i + 1) = s.take i ++ [s[i]] := by rw [pk, iY aJ]; rfl
   have h0 : s.getD (0 : Int).toNat 0 = s[0] := getD_at (by omega)
   have Y2 := Is (s := s) (by omega)
   simp only [cJ, ai]
   cases hd : dS s[i] with
   | false =>
     simp only [cZ, aI, show (true == false) = false from rfl, aB, a8, gj, ay, if_true, ai, bf]
     refine aj.eq hR ?_
     have : s.all dS = false := by
      rw [Bool.eq_false_iff]
      intro h
      rw [dP] at h
      rw [h s[i] (qE aJ)] at hd
      cases hd
     simp [iC, this]
   | true =>
     have hc := jV.1 hd
     have step : (1 < i + 1 -> s.head? ≠ some 48) -> (ak .mul (BT.mk false false false none false) true (AV.int .i64 10) (.int .i64 (gg 0 (s.take i)))).wp K ae (fun eB U =>
      (ey true none none (.str s) (.int .i64 (i : Nat))).wp K U (fun ct U =>
      (ak .sub (BT.mk false false false none false) true ct (AV.int .u8 48)).wp K U (fun v30 U =>
      (ti (some .i64) true false false v30).wp K U (fun v31 U =>
      (ak .add (BT.mk false false false none false) false eB v31).wp K U (fun fG U =>
      (rT fG (AV.int .i64 1000001)).wp K U (fun dF U =>
      (ak .add (BT.mk false false false none false) true (.int .i64 (i : Nat)) (AV.int .i64 1)).wp K U (fun v10 U =>
      Fn.lam 3 (fun vs U => ∃ m', m' < s.length - i /\ Fn.app 3 (fun v0 v3 v4 kz => ∃ i : Nat, m' = s.length - i /\ i <= s.length /\ v0 = .str s /\ v3 = .int .i64 (gg 0 (s.take i)) /\ v4 = .int .i64 i /\ kz = ae /\ (s.take i).all dS = true /\ (1 < i -> s.head? ≠ some 48)) vs U) (.str s) dF v10 U) (aa R)) (aa R)) (aa R)) (aa R)) (aa R)) (aa R)) (aa R) := fun Y1 => by
      rw [Ra]
      refine ⟨aX (by omega) (by omega), ?_⟩
      rw [um]
      refine ⟨by omega, ?_⟩
      rw [dC, getD_at aJ]
      have hw : IntKind.u8.wrap ((s[i].toNat : Int) - 48) = (s[i].toNat : Int) - 48 := by
       show ((s[i].toNat : Int) - 48) % 256 = _
       omega
      simp only [dH, Cn, ai, hw, ti, wp_cond, cn, FH]
      refine ⟨aX (by omega) (by omega), aX (by omega) (by omega), aX (by omega) (by omega), ?_⟩
      refine ⟨s.length - (i + 1), by omega, i + 1, rfl, by omega, rfl, ?_, by simp, rfl, ?_, Y1⟩
      · rw [Bu aJ]
        congr 1
        omega
      · rw [eY, List.all_append, bq]; simp [hd]
     simp only [bU, aI, du, aB, bl, au, dY, fQ]
     by_cases AW : 0 < i
     · have : ((i : Int) > 0) := by omega
       simp only [show ((0 : Int) < (i : Nat)) from this, bM, du, bl, au, tV, h0, aR, fQ, ay, bm, if_false, if_true, ai, aW]
       refine ⟨⟨by omega, by omega⟩, fun AT => ?_, fun AT => ?_⟩
       · refine aj.eq hR ?_
         have Ue : s[0] = 48 := UInt8.toNat_inj.1 (show s[0].toNat = (48 : UInt8).toNat by show s[0].toNat = 48; omega)
         have h1 : 1 < s.length := by omega
         by_cases ha : s.all dS = false
         · simp [iC, ha]
         · simp [iC, ha, Y2, Ue, h1]
       · refine step fun _ h => AT ?_
         rw [Y2] at h
         have : s[0] = 48 := by simpa using h
         rw [this]; rfl
     · have : ¬ ((0 : Int) < (i : Nat)) := by omega
       simp only [this, bZ, show (false == true) = false from rfl, a8, gj, ay, bm, if_false, au, ai, aU]
       exact step fun h => by omega
 · have hi : i = s.length := by omega
   subst hi
   rw [pj] at bq hb uy ⊢
   have hv : Am s = gg 0 s := rfl
   simp only [dY, ai, aW]
   have hn : ¬ (1 < s.length /\ s.head? = some 48) := fun h => hh h.1 h.2
   refine ⟨fun hm => ?_, fun hm => ?_⟩
   · refine aj.eq hR ?_
     simp only [iC, bq, hn, hv, if_false, Bool.true_eq_false]
     rw [if_pos (by omega)]
   · refine aj.eq hR ?_
     simp only [iC, bq, hn, hv, if_false, Bool.true_eq_false]
     rw [if_neg (by omega)]
end Go.Rip
namespace Go.Rip
open Go.Proofs Go.RowKit
def M0 : (Nat -> Option (Nat × Nat)) -> List (Nat × AV) -> List AV -> Option (List AV)
 | _, [], z => some z
 | pl, (i, x) :: rest, z => match pl i with
   | some (o, s) => if x.cS = true /\ (aA x).length = s /\ o + s <= z.length then M0 pl rest (aH z o (aA x)) else none
   | none => none
theorem uS {U : St} {K' : AV -> St -> Prop} {Kp : AV -> St -> Prop} {n m : Nat} : ∀ {pl : Nat -> Option (Nat × Nat)} {ps : List (Nat × AV)} {z zs : List AV}, M0 pl ps z = some zs -> zs.length = m -> K' (.vec n .full zs) U -> (eO pl ps z fun cs => .cond (cs.length = m) (.val (.vec n .full cs))).wp K U K' Kp
 | pl, [], z, zs, h, hm, hk => by cases h; rw [gQ]; exact ⟨hm, hk⟩
 | pl, (i, x) :: rest, z, zs, h, hm, hk => by
   simp only [M0] at h
   split at h
   · rename_i o s e
     split at h
     · rename_i hc; rw [eR e]; exact ⟨hc, uS h hm hk⟩
     · cases h
   · cases h
theorem VP {U : St} {R : cB -> St -> Prop} (h : R (.ret (.vec kf.length .full (kf.map .str))) U) : af K 223 [] U R := by
 refine LW ?_
 unfold LV
 rw [fI]
 refine ⟨by omega, ?_⟩
 exact uS (zs := kf.map .str) (by kernel_rfl) (by rfl) (aj.mk h)
theorem VR {U : St} {R : cB -> St -> Prop} (h : R (.ret (.vec fC.length .full (fC.map .str))) U) : af K 226 [] U R := by
 refine L6 ?_
 unfold L5
 rw [fI]
 refine ⟨by omega, ?_⟩
 exact uS (zs := fC.map .str) (by kernel_rfl) (by rfl) (aj.mk h)
def oT (t : Int × Nat × bg) (p : Nat) : AV := if t.1 = 0 then .aO [.agg [.int .u8 t.2.1, .str t.2.2, .int .i64 p], .int .i64 0] else .aO [.agg [.int .u8 0, .str [], .int .i64 0], .int .i64 t.1]
theorem F3 : ∀ x ∈ fC, x ≠ [] /\ x.length <= 10 /\ ∀ d ∈ x.head?, cK d = false := by decide
theorem N9 {c : UInt8} {r : bg} (h : cK c = true) : ni (c :: r) = (4, 0, []) := by
 have : fC.find? (fun x => x.isPrefixOf (c :: r)) = none := by
  rw [List.find?_eq_none]
  intro x hx hp
  obtain ⟨h1, _, h2⟩ := F3 x hx
  cases x with
  | nil => exact h1 rfl
  | cons d y =>
    have hp := List.isPrefixOf_iff_prefix.1 hp
    have := (List.cons_prefix_cons.1 hp).1
    subst this
    rw [h2 d rfl] at h; cases h
 unfold ni
 rw [this]
theorem JQ (s : bg) (p : Nat) (hp : p <= s.length) (hs : s.length <= 100000) : Pure K 172 [.str s, .int .i64 (p : Nat)] (oT (fD (s.drop p)) p) := by
 refine Pure.of rfl (by unfold oT; split <;> rfl) (fun U => by unfold oT; split <;> rfl) fun R hR => ?_
 refine Ln ?_
 unfold Lm
 rw [dQ]
 intro b hb
 generalize lg : (br _).new b _ = U
 have dK : U.box b = some [AV.int .u8 0, AV.str [], AV.int .i64 0] := by rw [<- lg]; exact aN
 clear lg hb
 refine (Hs s p hp hs).go ?_
 have fin : ∀ (cells : List AV) (e : Int) (ps : List (Nat × AV)) (ae : St), ae.box b = some [AV.int .u8 0, AV.str [], AV.int .i64 0] -> xJ [(0, 1), (1, 1), (2, 1)] ps [AV.int .u8 0, AV.str [], AV.int .i64 0] = some cells -> cells.length = 3 -> oT (fD (s.drop p)) p = .aO [.agg cells, .int .i64 e] ->
  (c6 (some [(0, 1), (1, 1), (2, 1)]) (some [AV.int .u8 0, AV.str [], AV.int .i64 0]) none ps).wp K ae (fun v U => (aQ (some (true, 3)) (.box b 0) v U).wp K U (fun _ U => bF (some (true, 3)) (.box b 0) U fun r0 => aj R (.aO [r0, .int .i64 e]) U) (aa R)) (aa R) := by
  intro cells e ps ae dA h1 hc h2
  refine oZ _ h1 ?_
  rw [dD dA]
  have yX : aH [AV.int .u8 0, AV.str [], AV.int .i64 0] 0 (aA (.agg cells)) = cells := by
   match cells, hc with
   | [x, y, z], _ => rfl
  refine ⟨⟨rfl, hc, by simp⟩, ?_⟩
  rw [wB bo, yX]
  refine ⟨by simp [hc], ?_⟩
  rw [h2] at hR
  refine aj.eq (hR _) ?_
  rw [ej, qC (by omega)]
 have QS : fD (s.drop p) = ni (s.drop p) -> af K 226 [] U (ar (fun v51 U =>
  cG 5 [.str s, .int .i64 (p : Nat), .box b 0, v51, (AV.int .i64 0)] U fun lp v0 v1 dW v8 v9 U =>
   (bw (some false) v8).wp K U (fun lL U =>
   (ak .lss (BT.mk false false false none false) false v9 lL).wp K U (fun iX U =>
   al iX (
    (aF (some (9, 1)) none v8 v9).wp K U (fun pz U =>
    (ao (some (false, 1)) pz U).wp K U (fun qJ U =>
    af K 227 [v0, v1, qJ] U (ar (fun mN U =>
    al mN (
     (aF (some (9, 1)) none v8 v9).wp K U (fun mO U =>
     (ao (some (false, 1)) mO U).wp K U (fun qK U =>
     (c6 (some [(0, 1), (1, 1), (2, 1)]) (some [AV.int .u8 0, AV.str [], AV.int .i64 0]) none [(0, (AV.int .u8 4)), (1, qK), (2, v1)]).wp K U (fun v70 U =>
     (aQ (some (true, 3)) dW v70 U).wp K U (fun _ U =>
     bF (some (true, 3)) dW U fun x8 =>
     aj R (AV.aO [x8, (AV.int .i64 0)]) U) (aa R)) (aa R)) (aa R)) (aa R)) (
     (ak .add (BT.mk false false false none false) true v9 (AV.int .i64 1)).wp K U (fun kK U =>
     lp v0 v1 dW v8 kK U) (aa R))) (aa R))) (aa R)) (aa R)) (
    (c6 (some [(0, 1), (1, 1), (2, 1)]) (some [AV.int .u8 0, AV.str [], AV.int .i64 0]) none []).wp K U (fun qL U =>
    (aQ (some (true, 3)) dW qL U).wp K U (fun _ U =>
    bF (some (true, 3)) dW U fun DK =>
    aj R (AV.aO [DK, (AV.int .i64 4)]) U) (aa R)) (aa R))) (aa R)) (aa R)) (aa R)) := fun sF => by
  refine VR ?_
  simp only [bu]
  refine ⟨fun m v0 v1 v4 v8 v9 ae => ∃ k : Nat, m = fC.length - k /\ k <= fC.length /\ v0 = .str s /\ v1 = .int .i64 (p : Nat) /\ v4 = .box b 0 /\ v8 = .vec fC.length .full (fC.map .str) /\ v9 = .int .i64 (k : Nat) /\ ae = U /\ ∀ j, j < k -> ∀ y, fC[j]? = some y -> y.isPrefixOf (s.drop p) = false,
   ⟨_, 0, rfl, by omega, rfl, rfl, rfl, rfl, rfl, rfl, fun j hj => by omega⟩, ?_⟩
  rintro m v0 v1 v4 v8 v9 ae ⟨k, rfl, hk, rfl, rfl, rfl, rfl, rfl, rfl, fF⟩
  have nD : fC.length = 16 := rfl
  simp only [oA, bj, ai, aW]
  refine ⟨fun aJ => ?_, fun gn => ?_⟩
  · have aJ : k < fC.length := by omega
    have hd : (fC.map AV.str).drop ((k : Int).toNat * 1) = .str fC[k] :: (fC.map AV.str).drop (k + 1) := by
     rw [dC, Nat.mul_one, gp (by simpa using aJ)]; simp
    rw [AG]
    refine ⟨by omega, ?_⟩
    rw [hd, og, bB]
    have hg : fC[k]? = some fC[k] := iY aJ
    have kD := (F3 fC[k] (qE aJ)).2.1
    refine (N4 s fC[k] p hp hs (by omega)).go ?_
    cases Zl : fC[k].isPrefixOf (s.drop p) with
    | true =>
      simp only [bf]
      rw [AG]
      refine ⟨by omega, ?_⟩
      rw [hd, og, bB]
      refine fin _ 0 _ _ dK rfl rfl ?_
      rw [sF]
      unfold ni
      rw [Ib fF hg Zl]
      rfl
    | false =>
      simp only [aU, cn]
      refine ⟨aX (by omega) (by omega), fC.length - (k + 1), by omega, k + 1, rfl, by omega, rfl, rfl, rfl, rfl, by simp, rfl, fun j hj y hy => ?_⟩
      rcases eG j k with h | h
      · exact fF j h y hy
      · have : j = k := by omega
        subst this
        rw [hg] at hy; cases hy; exact Zl
  · have sC : k = fC.length := by omega
    refine fin _ 4 _ _ dK rfl rfl ?_
    rw [sF]
    unfold ni
    rw [Nk (by subst sC; exact fF)]
    rfl
 have mj : fD (s.drop p) = match (s.drop p).takeWhile cK with
  | [] => ni (s.drop p)
  | c :: r => if dS c then (iC (c :: r), 2, c :: r) else if iQ c = false then (4, 0, []) else if (c :: r) ∈ kf then (0, 3, c :: r) else if 12 < (c :: r).length then (4, 0, []) else (0, 1, c :: r) := by
  unfold fD ni
  simp only
  cases (s.drop p).takeWhile cK <;> rfl
 have Zx : ((s.drop p).takeWhile cK).length <= 100000 := by
  have := (qB cK (l := s.drop p)).length_le
  simp at this; omega
 have yY : ∀ c r, (s.drop p).takeWhile cK = c :: r -> cK c = true /\ ∃ r', s.drop p = c :: r' := fun c r h => by
  cases hd : s.drop p with
  | nil => rw [hd] at h; simp at h
  | cons d t =>
    rw [hd, nh] at h
    split at h
    · rename_i hc; cases h; exact ⟨hc, t, rfl⟩
    · cases h
 cases hw : (s.drop p).takeWhile cK with
 | nil =>
   rw [hw] at mj
   simp only [jt, show w_ = ([] : List UInt8) from rfl, bM, bU, ai, aI, aB, show (false == true) = false from rfl, a8, ay, bm, if_false, aU]
   exact QS mj
 | cons c r =>
   rw [hw] at mj Zx
   obtain ⟨hca, r', ve⟩ := yY c r hw
   have cm : ¬ (c :: r = w_) := by simp [show w_ = ([] : List UInt8) from rfl]
   simp only [jt, cm, bZ, cZ, ai, aI, aB, du, bl, au, tV, fQ]
   refine ⟨by simp, _, Bz c, ?_⟩
   simp only [au, ay, if_true, ai]
   cases kD : iQ c with
   | true =>
     have PB : dS c = false := by
      unfold iQ at kD; unfold dS
      have h97 := of_decide_eq_true kD
      rw [decide_eq_false_iff_not]
      omega
     simp only [bf]
     simp only [PB, kD, bm, if_false, Bool.true_eq_false] at mj
     refine VP ?_
     simp only [bu]
     refine (JL .full kf (c :: r) (by decide)).go ?_
     by_cases hk : (c :: r) ∈ kf
     · simp only [hk, bM, bf]
       rw [if_pos hk] at mj
       exact fin _ 0 _ _ dK rfl rfl (by rw [mj]; rfl)
     · simp only [hk, bZ, aU, gO, dY, ai, aW]
       rw [if_neg hk] at mj
       refine ⟨fun h => ?_, fun h => ?_⟩
       · rw [if_pos (by omega)] at mj
         exact fin _ 4 _ _ dK rfl rfl (by rw [mj]; rfl)
       · rw [if_neg (by omega)] at mj
         exact fin _ 0 _ _ dK rfl rfl (by rw [mj]; rfl)
   | false =>
     simp only [aU]
     refine ⟨by simp, _, vP c, ?_⟩
     simp only [au, ay, if_true, ai]
     cases PB : dS c with
     | true =>
       simp only [bf]
       simp only [PB, if_true] at mj
       refine (JO (c :: r) Zx).go ?_
       simp only [bS, ai]
       by_cases he : iC (c :: r) = 0
       · simp only [he, bM, bU, aU]
         exact fin _ 0 _ _ dK rfl rfl (by rw [mj]; simp [oT, he]; rfl)
       · simp only [he, bZ, cZ, bf]
         exact fin _ _ _ _ dK rfl rfl (by rw [mj]; simp [oT, he])
     | false =>
       simp only [aU]
       simp only [PB, kD, bm, if_false, if_true] at mj
       refine QS ?_
       rw [mj, ve, N9 hca]
end Go.Rip
namespace Go.Rip
open Go.Proofs Go.RowKit
def MT (v w : AV) : Prop := ∀ τ n l n' l', v = .vec n (.own τ) l -> w = .vec n' (.own τ) l' -> False
theorem MT.symm {v w : AV} (h : MT v w) : MT w v := fun τ n l n' l' h1 h2 => h τ n' l' n l h2 h1
theorem Grow.o0 {U ae : St} {v : AV} {e sz n : Nat} {l : List AV} (g : Grow U v e sz n l) (h : cH U ae) : Grow ae v e sz n l := by
 rcases g with g | ⟨τ, h1, h2, h3⟩
 · exact .inl g
 · exact .inr ⟨τ, h1, h.tok h2, h3⟩
end Go.Rip
