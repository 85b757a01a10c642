/- Lemmas for the proof: no conditions. -/
import Derived.Test.YtnfpmiiopiinbaaGreatDoorRipZz
import Derived.Test.YtnfpmiiopiinbaaGreatDoorRipP
import Derived.Test.YtnfpmiiopiinbaaGreatDoorRipS
import Derived.Test.YtnfpmiiopiinbaaGreatDoorRipT
set_option linter.unusedVariables false
set_option linter.unusedSimpArgs false
set_option linter.loopingSimpArgs false
namespace Go.Rip
open Go.Proofs Go.RowKit
theorem gw (b : Bool) : ar (.aQ []) b = .bool false := by cases b <;> rfl
theorem Bz (c : UInt8) : Pure K 221 [.int .u8 c.toNat] (.bool (iN c)) := by
 intro U R hR
 refine L5 ?_
 simp (contextual := true) only [L0, oc, mO, aW, bj, fw, dD, dR, ai, aI, aB, jl, bp, a8, aw, az, fT, zj, aX, bh, aV, bS, cm, ite_true, ite_false, beq_true, beq_false, bV, da, cP, if_true, if_false, true_and, and_true, not_true, not_false_iff]
 repeat' (first | refine And.intro ?_ ?_ | intro _)
 all_goals (refine aj.eq hR ?_; simp only [iN, AV.bool.injEq])
 all_goals grind
theorem vO (c : UInt8) : Pure K 224 [.int .u8 c.toNat] (.bool (dN c)) := by
 intro U R hR
 refine Mc ?_
 simp (contextual := true) only [Mb, oc, mO, aW, bj, fw, dD, dR, ai, aI, aB, jl, bp, a8, aw, az, fT, zj, aX, bh, aV, bS, cm, ite_true, ite_false, beq_true, beq_false, bV, da, cP, if_true, if_false, true_and, and_true, not_true, not_false_iff]
 repeat' (first | refine And.intro ?_ ?_ | intro _)
 all_goals (refine aj.eq hR ?_; simp only [dN, AV.bool.injEq])
 all_goals grind
theorem JZ (c : UInt8) : Pure K 254 [.int .u8 c.toNat] (.bool (iN c || wq c)) := by
 intro U R hR
 refine Mx ?_
 unfold Mw
 refine (Bz c).go ?_
 cases hs : iN c with
 | true =>
   rw [hs] at hR
   simp only [aI, show (true == false) = false from rfl, aB, a8, gw, az, if_true, ai]
   exact aj.mk hR
 | false =>
   rw [hs] at hR
   simp (contextual := true) only [dw, oc, mO, fw, dR, ai, aI, aB, jl, bp, a8, aw, az, fT, zj, aX, bS, cm, ite_true, ite_false, beq_true, beq_false, bV, da, cP, if_true, if_false, true_and, and_true, bq]
   repeat' (first | refine And.intro ?_ ?_ | intro _)
   all_goals (refine aj.eq hR ?_; simp only [wq, AV.bool.injEq])
   all_goals grind
theorem Si {s : bf} {q : UInt8 -> Bool} {p i : Nat} (Zb : p <= i) (hi : i <= s.length) (bw : ∀ j (hj : j < s.length), p <= j -> j < i -> q s[j] = true) (tA : ∀ h : i < s.length, q s[i] = false) : (s.drop p).takeWhile q = (s.take i).drop p := by
 have e : s.drop p = (s.take i).drop p ++ s.drop i := by
  conv => lhs; rw [<- List.take_append_drop i s]
  rw [List.drop_append, List.length_take, Nat.min_eq_left hi, show p - i = 0 by omega, dX]
 have h1 : ((s.take i).drop p).takeWhile q = (s.take i).drop p := py fun x hx => by
  obtain ⟨j, hj, rfl⟩ := List.getElem_of_mem hx
  simp only [List.length_drop, List.length_take] at hj
  rw [List.getElem_drop, List.getElem_take]
  exact bw (p + j) (by omega) (by omega) (by omega)
 rw [e, List.takeWhile_append, h1]
 simp only [if_true]
 rcases eD i s.length with h | h
 · rw [fN h, nj, tA h]; simp
 · rw [List.drop_eq_nil_of_le h]; simp
theorem HD (s : bf) (p : Nat) (hp : p <= s.length) (hs : s.length <= 100000) : Pure K 220 [.str s, .int .i64 (p : Nat)] (.str ((s.drop p).takeWhile cO)) := by
 intro U R hR
 refine LZ ?_
 unfold LY
 refine ⟨fun m v0 v1 v5 ae => ∃ i : Nat, m = s.length - i /\ p <= i /\ i <= s.length /\ v0 = .str s /\ v1 = .int .i64 (p : Nat) /\ v5 = .int .i64 i /\ ae = U /\ ∀ j (hj : j < s.length), p <= j -> j < i -> cO s[j] = true, ⟨_, p, rfl, df _, hp, rfl, rfl, rfl, rfl, fun j hj h1 h2 => by omega⟩, ?_⟩
 rintro m v0 v1 v5 ae ⟨i, rfl, Zb, hi, rfl, rfl, rfl, rfl, bw⟩
 have fin : (∀ h : i < s.length, cO s[i] = false) -> (eE true none (.str s) (some (.int .i64 (p : Nat))) (some (.int .i64 (i : Nat)))).wp K ae (fun v28 U => aj R v28 U) (aa R) := fun tA => by
  simp only [lO, gB, ij, wp_cond, ai, ej]
  refine ⟨⟨by omega, by omega, by omega⟩, ?_⟩
  rw [Si Zb hi bw tA] at hR
  exact aj.mk hR
 simp only [gT, ai, bj, aI, aB]
 by_cases aJ : i < s.length
 · have mv : (i : Int) < s.length := by omega
   simp only [mv, bS, dw, bp, aw, tZ, fT, ej, getD_at aJ]
   refine ⟨by simp, _, JZ s[i], ?_⟩
   have step : cO s[i] = true -> (ak .add (BT.mk false false false none false) true (.int .i64 (i : Nat)) (AV.int .i64 1)).wp K ae (fun v24 U => Fn.lam 3 (fun vs U => ∃ m', m' < s.length - i /\ Fn.app 3 (fun v0 v1 v5 jb => ∃ i : Nat, m' = s.length - i /\ p <= i /\ i <= s.length /\ v0 = .str s /\ v1 = .int .i64 (p : Nat) /\ v5 = .int .i64 i /\ jb = ae /\ ∀ j (hj : j < s.length), p <= j -> j < i -> cO s[j] = true) vs U) (.str s) (.int .i64 (p : Nat)) v24 U) (aa R) := fun ha => by
    rw [cq]
    refine ⟨aZ (by omega) (by omega), s.length - (i + 1), by omega, i + 1, rfl, by omega, by omega, rfl, rfl, by simp, rfl, fun j hj h1 h2 => ?_⟩
    rcases eD j i with h | h
    · exact bw j hj h1 h
    · have : j = i := by omega
      subst this; exact ha
   cases hl : iN s[i] || wq s[i] with
   | true =>
     have ha : cO s[i] = true := by unfold cO; rw [Bool.or_assoc, hl]; simp
     simp only [aI, aB, show (true == false) = false from rfl, a8, az, if_true, aw, ai, bh]
     exact step ha
   | false =>
     simp only [aI, aB, dw, bp, tZ, aw, fT, ej, getD_at aJ]
     refine ⟨by omega, _, vO s[i], ?_⟩
     have ha : cO s[i] = dN s[i] := by unfold cO; rw [Bool.or_assoc, hl]; simp
     simp only [az, bq, if_false, if_true, aw, ai]
     cases hd : dN s[i] with
     | true => simp only [bh]; exact step (ha.trans hd)
     | false => simp only [aV]; exact fin fun _ => ha.trans hd
 · have mv : ¬ (i : Int) < s.length := by omega
   simp only [mv, cm, show (false == true) = false from rfl, a8, gw, az, bq, if_false, aw, ai, aB, aV]
   exact fin fun h => absurd h aJ
end Go.Rip
namespace Go.Rip
open Go.Proofs Go.RowKit
theorem JX (c : iV) (l : List bf) (s : bf) (hn : l.length <= 100000) : Pure K 222 [.vec l.length c (l.map .str), .str s] (.bool (decide (s ∈ l))) := by
 intro U R hR
 refine L7 ?_
 unfold L6
 refine ⟨fun m v0 v1 v5 ae => ∃ i : Nat, m = l.length - i /\ i <= l.length /\ v0 = .vec l.length c (l.map .str) /\ v1 = .str s /\ v5 = .int .i64 i /\ ae = U /\ ∀ j, j < i -> l[j]? ≠ some s, ⟨_, 0, rfl, by omega, rfl, rfl, rfl, rfl, fun j hj => by omega⟩, ?_⟩
 rintro m v0 v1 v5 ae ⟨i, rfl, hi, rfl, rfl, rfl, rfl, eV⟩
 simp only [oG, bj, ai, aX]
 refine ⟨fun aJ => ?_, fun fZ => ?_⟩
 · have aJ : i < l.length := by omega
   have hd : (l.map AV.str).drop ((i : Int).toNat * 1) = .str l[i] :: (l.map AV.str).drop (i + 1) := by
    rw [ej, Nat.mul_one, fN (by simpa using aJ)]; simp
   rw [Av]
   refine ⟨by omega, ?_⟩
   rw [hd, mR, bG]
   simp only [gb, ai, aX]
   refine ⟨fun he => ?_, fun bQ => ?_⟩
   · refine aj.eq hR ?_
     have : s ∈ l := he ▸ qN aJ
     simp [this]
   · rw [cq]
     refine ⟨aZ (by omega) (by omega), l.length - (i + 1), by omega, i + 1, rfl, by omega, rfl, rfl, by simp, rfl, fun j hj => ?_⟩
     rcases eD j i with h | h
     · exact eV j h
     · have : j = i := by omega
       subst this
       rw [iZ aJ]; simpa using bQ
 · refine aj.eq hR ?_
   have : s ∉ l := fun hm => by
    obtain ⟨j, hj, he⟩ := List.getElem_of_mem hm
    exact eV j (by omega) (by rw [iZ hj, he])
   simp [this]
theorem Oh (s w : bf) (p : Nat) (hp : p <= s.length) (hs : s.length <= 100000) (hw : w.length <= 100000) : Pure K 227 [.str s, .int .i64 (p : Nat), .str w] (.bool (w.isPrefixOf (s.drop p))) := by
 intro U R hR
 refine Mi ?_
 unfold Mh
 simp only [gT, ai, Rc, dR, aI, aB]
 refine ⟨aZ (by omega) (by omega), ?_⟩
 by_cases hl : (w.length : Int) <= (s.length : Int) - (p : Int)
 · simp only [hl, bS, dw, bp, aw, fT, gT, zd]
   refine ⟨aZ (by omega) (by omega), ?_⟩
   simp only [lO, gB, ij, gG, aw, ej]
   refine ⟨⟨by omega, by omega, by omega⟩, ?_⟩
   simp only [gb, aw, az, if_true, ai]
   refine aj.eq hR ?_
   have e : ((p : Int) + (w.length : Int)).toNat = p + w.length := by omega
   rw [e]
   have e2 : (s.take (p + w.length)).drop p = (s.drop p).take w.length := by rw [List.drop_take]; congr 1; omega
   rw [e2]
   congr 1
   rw [lL, cP, List.isPrefixOf_iff_prefix, List.prefix_iff_eq_take]
   exact eq_comm
 · simp only [hl, cm, show (false == true) = false from rfl, a8, az, bq, if_false, ai]
   refine aj.eq hR ?_
   congr 1
   rw [eq_comm, Bool.eq_false_iff]
   intro h
   have := (List.isPrefixOf_iff_prefix.1 h).length_le
   simp at this
   omega
end Go.Rip
namespace Go.Rip
open Go.Proofs Go.RowKit
theorem IG {s : bf} (h : 0 < s.length) : s.head? = some s[0] := by
 cases s with
 | nil => simp at h
 | cons c r => rfl
theorem J0 (s : bf) (hs : s.length <= 100000) : Pure K 225 [.str s] (.int .i64 (iD s)) := by
 intro U R hR
 refine Me ?_
 unfold Md
 refine ⟨fun m v0 v3 v4 ae => ∃ i : Nat, m = s.length - i /\ i <= s.length /\ v0 = .str s /\ v3 = .int .i64 (gm 0 (s.take i)) /\ v4 = .int .i64 i /\ ae = U /\ (s.take i).all dN = true /\ (1 < i -> s.head? ≠ some 48), ⟨s.length, 0, by simp [Fn.app, gm]⟩, ?_⟩
 rintro m v0 v3 v4 ae ⟨i, rfl, hi, rfl, rfl, rfl, rfl, bw, hh⟩
 have hb := Aa (s.take i) 0 (by omega)
 have uC := p9 (s.take i) 0 bw (by omega)
 simp only [gT, ai, bj, aX]
 refine ⟨fun aJ => ?_, fun fZ => ?_⟩
 · have aJ : i < s.length := by omega
   rw [uu]
   refine ⟨by omega, ?_⟩
   rw [ej, getD_at aJ]
   refine (vO s[i]).go ?_
   have eW : s.take (i + 1) = s.take i ++ [s[i]] := by rw [od, iZ aJ]; rfl
   have h0 : s.getD (0 : Int).toNat 0 = s[0] := getD_at (by omega)
   have YT := IG (s := s) (by omega)
   simp only [cU, ai]
   cases hd : dN s[i] with
   | false =>
     simp only [da, aI, show (true == false) = false from rfl, aB, a8, gw, az, if_true, ai, bh]
     refine aj.eq hR ?_
     have : s.all dN = false := by
      rw [Bool.eq_false_iff]
      intro h
      rw [dJ] at h
      rw [h s[i] (qN aJ)] at hd
      cases hd
     simp [iD, this]
   | true =>
     have hc := jY.1 hd
     have step : (1 < i + 1 -> s.head? ≠ some 48) -> (ak .mul (BT.mk false false false none false) true (AV.int .i64 10) (.int .i64 (gm 0 (s.take i)))).wp K ae (fun dK U =>
      (eg true none none (.str s) (.int .i64 (i : Nat))).wp K U (fun cz U =>
      (ak .sub (BT.mk false false false none false) true cz (AV.int .u8 48)).wp K U (fun v30 U =>
      (tp (some .i64) true false false v30).wp K U (fun v31 U =>
      (ak .add (BT.mk false false false none false) false dK v31).wp K U (fun fF U =>
      (rY fF (AV.int .i64 1000001)).wp K U (fun dL U =>
      (ak .add (BT.mk false false false none false) true (.int .i64 (i : Nat)) (AV.int .i64 1)).wp K U (fun v10 U =>
      Fn.lam 3 (fun vs U => ∃ m', m' < s.length - i /\ Fn.app 3 (fun v0 v3 v4 jb => ∃ i : Nat, m' = s.length - i /\ i <= s.length /\ v0 = .str s /\ v3 = .int .i64 (gm 0 (s.take i)) /\ v4 = .int .i64 i /\ jb = ae /\ (s.take i).all dN = true /\ (1 < i -> s.head? ≠ some 48)) vs U) (.str s) dL v10 U) (aa R)) (aa R)) (aa R)) (aa R)) (aa R)) (aa R)) (aa R) := fun YS => by
      rw [Ra]
      refine ⟨aZ (by omega) (by omega), ?_⟩
      rw [uu]
      refine ⟨by omega, ?_⟩
      rw [ej, getD_at aJ]
      have hw : IntKind.u8.wrap ((s[i].toNat : Int) - 48) = (s[i].toNat : Int) - 48 := by
       show ((s[i].toNat : Int) - 48) % 256 = _
       omega
      simp only [fx, Cl, ai, hw, tp, wp_cond, cq, FU]
      refine ⟨aZ (by omega) (by omega), aZ (by omega) (by omega), aZ (by omega) (by omega), ?_⟩
      refine ⟨s.length - (i + 1), by omega, i + 1, rfl, by omega, rfl, ?_, by simp, rfl, ?_, YS⟩
      · rw [Bu aJ]
        congr 1
        omega
      · rw [eW, List.all_append, bw]; simp [hd]
     simp only [bV, aI, dw, aB, bp, aw, dD, fT]
     by_cases AS : 0 < i
     · have : ((i : Int) > 0) := by omega
       simp only [show ((0 : Int) < (i : Nat)) from this, bS, dw, bp, aw, tZ, h0, aW, fT, az, bq, if_false, if_true, ai, aX]
       refine ⟨⟨by omega, by omega⟩, fun AQ => ?_, fun AQ => ?_⟩
       · refine aj.eq hR ?_
         have Ub : s[0] = 48 := UInt8.toNat_inj.1 (show s[0].toNat = (48 : UInt8).toNat by show s[0].toNat = 48; omega)
         have h1 : 1 < s.length := by omega
         by_cases ha : s.all dN = false
         · simp [iD, ha]
         · simp [iD, ha, YT, Ub, h1]
       · refine step fun _ h => AQ ?_
         rw [YT] at h
         have : s[0] = 48 := by simpa using h
         rw [this]; rfl
     · have : ¬ ((0 : Int) < (i : Nat)) := by omega
       simp only [this, cm, show (false == true) = false from rfl, a8, gw, az, bq, if_false, aw, ai, aV]
       exact step fun h => by omega
 · have hi : i = s.length := by omega
   subst hi
   rw [pv] at bw hb uC ⊢
   have hv : Ab s = gm 0 s := rfl
   simp only [dD, ai, aX]
   have hn : ¬ (1 < s.length /\ s.head? = some 48) := fun h => hh h.1 h.2
   refine ⟨fun hm => ?_, fun hm => ?_⟩
   · refine aj.eq hR ?_
     simp only [iD, bw, hn, hv, if_false, Bool.true_eq_false]
     rw [if_pos (by omega)]
   · refine aj.eq hR ?_
     simp only [iD, bw, hn, hv, if_false, Bool.true_eq_false]
     rw [if_neg (by omega)]
end Go.Rip
namespace Go.Rip
open Go.Proofs Go.RowKit
def Ng : (Nat -> Option (Nat × Nat)) -> List (Nat × AV) -> List AV -> Option (List AV)
 | _, [], z => some z
 | pl, (i, x) :: rest, z => match pl i with
   | some (o, s) => if x.cS = true /\ (ax x).length = s /\ o + s <= z.length then Ng pl rest (aA z o (ax x)) else none
   | none => none
theorem uT {U : St} {K' : AV -> St -> Prop} {Kp : AV -> St -> Prop} {n m : Nat} : ∀ {pl : Nat -> Option (Nat × Nat)} {ps : List (Nat × AV)} {z zs : List AV}, Ng pl ps z = some zs -> zs.length = m -> K' (.vec n .full zs) U -> (eK pl ps z fun cs => .cond (cs.length = m) (.val (.vec n .full cs))).wp K U K' Kp
 | pl, [], z, zs, h, hm, hk => by cases h; rw [gX]; exact ⟨hm, hk⟩
 | pl, (i, x) :: rest, z, zs, h, hm, hk => by
   simp only [Ng] at h
   split at h
   · rename_i o s e
     split at h
     · rename_i hc; rw [eM e]; exact ⟨hc, uT h hm hk⟩
     · cases h
   · cases h
theorem VL {U : St} {R : cB -> St -> Prop} (h : R (.ret (.vec km.length .full (km.map .str))) U) : af K 223 [] U R := by
 refine Ma ?_
 unfold L9
 rw [fO]
 refine ⟨by omega, ?_⟩
 exact uT (zs := km.map .str) (by kernel_rfl) (by rfl) (aj.mk h)
theorem VN {U : St} {R : cB -> St -> Prop} (h : R (.ret (.vec fD.length .full (fD.map .str))) U) : af K 226 [] U R := by
 refine Mg ?_
 unfold Mf
 rw [fO]
 refine ⟨by omega, ?_⟩
 exact uT (zs := fD.map .str) (by kernel_rfl) (by rfl) (aj.mk h)
def o3 (t : Int × Nat × bf) (p : Nat) : AV := if t.1 = 0 then .aQ [.agg [.int .u8 t.2.1, .str t.2.2, .int .i64 p], .int .i64 0] else .aQ [.agg [.int .u8 0, .str [], .int .i64 0], .int .i64 t.1]
theorem Gc : ∀ x ∈ fD, x ≠ [] /\ x.length <= 10 /\ ∀ d ∈ x.head?, cO d = false := by decide
theorem Om {c : UInt8} {r : bf} (h : cO c = true) : nk (c :: r) = (4, 0, []) := by
 have : fD.find? (fun x => x.isPrefixOf (c :: r)) = none := by
  rw [List.find?_eq_none]
  intro x hx hp
  obtain ⟨h1, _, h2⟩ := Gc x hx
  cases x with
  | nil => exact h1 rfl
  | cons d y =>
    have hp := List.isPrefixOf_iff_prefix.1 hp
    have := (List.cons_prefix_cons.1 hp).1
    subst this
    rw [h2 d rfl] at h; cases h
 unfold nk
 rw [this]
theorem J1 (s : bf) (p : Nat) (hp : p <= s.length) (hs : s.length <= 100000) : Pure K 172 [.str s, .int .i64 (p : Nat)] (o3 (fE (s.drop p)) p) := by
 refine Pure.of rfl (by unfold o3; split <;> rfl) (fun U => by unfold o3; split <;> rfl) fun R hR => ?_
 refine Lw ?_
 unfold Lv
 rw [cx]
 intro b hb
 generalize ln : (bD _).new b _ = U
 have dC : U.box b = some [AV.int .u8 0, AV.str [], AV.int .i64 0] := by rw [<- ln]; exact aL
 clear ln hb
 refine (HD s p hp hs).go ?_
 have fin : ∀ (cells : List AV) (e : Int) (ps : List (Nat × AV)) (ae : St), ae.box b = some [AV.int .u8 0, AV.str [], AV.int .i64 0] -> xD [(0, 1), (1, 1), (2, 1)] ps [AV.int .u8 0, AV.str [], AV.int .i64 0] = some cells -> cells.length = 3 -> o3 (fE (s.drop p)) p = .aQ [.agg cells, .int .i64 e] ->
  (c7 (some [(0, 1), (1, 1), (2, 1)]) (some [AV.int .u8 0, AV.str [], AV.int .i64 0]) none ps).wp K ae (fun v U => (aM (some (true, 3)) (.box b 0) v U).wp K U (fun _ U => bl (some (true, 3)) (.box b 0) U fun r0 => aj R (.aQ [r0, .int .i64 e]) U) (aa R)) (aa R) := by
  intro cells e ps ae dQ h1 hc h2
  refine nP _ h1 ?_
  rw [cA dQ]
  have yO : aA [AV.int .u8 0, AV.str [], AV.int .i64 0] 0 (ax (.agg cells)) = cells := by
   match cells, hc with
   | [x, y, z], _ => rfl
  refine ⟨⟨rfl, hc, by simp⟩, ?_⟩
  rw [lq aS, yO]
  refine ⟨by simp [hc], ?_⟩
  rw [h2] at hR
  refine aj.eq (hR _) ?_
  rw [dX, pt (by omega)]
 have QO : fE (s.drop p) = nk (s.drop p) -> af K 226 [] U (au (fun v51 U =>
  cL 5 [.str s, .int .i64 (p : Nat), .box b 0, v51, (AV.int .i64 0)] U fun lp v0 v1 dz v8 v9 U =>
   (bB (some false) v8).wp K U (fun lR U =>
   (ak .lss (BT.mk false false false none false) false v9 lR).wp K U (fun iX U =>
   ao iX (
    (aG (some (9, 1)) none v8 v9).wp K U (fun sZ U =>
    (aq (some (false, 1)) sZ U).wp K U (fun ox U =>
    af K 227 [v0, v1, ox] U (au (fun om U =>
    ao om (
     (aG (some (9, 1)) none v8 v9).wp K U (fun pH U =>
     (aq (some (false, 1)) pH U).wp K U (fun qS U =>
     (c7 (some [(0, 1), (1, 1), (2, 1)]) (some [AV.int .u8 0, AV.str [], AV.int .i64 0]) none [(0, (AV.int .u8 4)), (1, qS), (2, v1)]).wp K U (fun v70 U =>
     (aM (some (true, 3)) dz v70 U).wp K U (fun _ U =>
     bl (some (true, 3)) dz U fun xW =>
     aj R (AV.aQ [xW, (AV.int .i64 0)]) U) (aa R)) (aa R)) (aa R)) (aa R)) (
     (ak .add (BT.mk false false false none false) true v9 (AV.int .i64 1)).wp K U (fun ly U =>
     lp v0 v1 dz v8 ly U) (aa R))) (aa R))) (aa R)) (aa R)) (
    (c7 (some [(0, 1), (1, 1), (2, 1)]) (some [AV.int .u8 0, AV.str [], AV.int .i64 0]) none []).wp K U (fun s8 U =>
    (aM (some (true, 3)) dz s8 U).wp K U (fun _ U =>
    bl (some (true, 3)) dz U fun DN =>
    aj R (AV.aQ [DN, (AV.int .i64 4)]) U) (aa R)) (aa R))) (aa R)) (aa R)) (aa R)) := fun sJ => by
  refine VN ?_
  simp only [bu]
  refine ⟨fun m v0 v1 v4 v8 v9 ae => ∃ k : Nat, m = fD.length - k /\ k <= fD.length /\ v0 = .str s /\ v1 = .int .i64 (p : Nat) /\ v4 = .box b 0 /\ v8 = .vec fD.length .full (fD.map .str) /\ v9 = .int .i64 (k : Nat) /\ ae = U /\ ∀ j, j < k -> ∀ y, fD[j]? = some y -> y.isPrefixOf (s.drop p) = false,
   ⟨_, 0, rfl, by omega, rfl, rfl, rfl, rfl, rfl, rfl, fun j hj => by omega⟩, ?_⟩
  rintro m v0 v1 v4 v8 v9 ae ⟨k, rfl, hk, rfl, rfl, rfl, rfl, rfl, rfl, eV⟩
  have pD : fD.length = 16 := rfl
  simp only [oG, bj, ai, aX]
  refine ⟨fun aJ => ?_, fun fZ => ?_⟩
  · have aJ : k < fD.length := by omega
    have hd : (fD.map AV.str).drop ((k : Int).toNat * 1) = .str fD[k] :: (fD.map AV.str).drop (k + 1) := by
     rw [ej, Nat.mul_one, fN (by simpa using aJ)]; simp
    rw [Av]
    refine ⟨by omega, ?_⟩
    rw [hd, mR, bG]
    have hg : fD[k]? = some fD[k] := iZ aJ
    have kK := (Gc fD[k] (qN aJ)).2.1
    refine (Oh s fD[k] p hp hs (by omega)).go ?_
    cases Zc : fD[k].isPrefixOf (s.drop p) with
    | true =>
      simp only [bh]
      rw [Av]
      refine ⟨by omega, ?_⟩
      rw [hd, mR, bG]
      refine fin _ 0 _ _ dC rfl rfl ?_
      rw [sJ]
      unfold nk
      rw [Ir eV hg Zc]
      rfl
    | false =>
      simp only [aV, cq]
      refine ⟨aZ (by omega) (by omega), fD.length - (k + 1), by omega, k + 1, rfl, by omega, rfl, rfl, rfl, rfl, by simp, rfl, fun j hj y hy => ?_⟩
      rcases eD j k with h | h
      · exact eV j h y hy
      · have : j = k := by omega
        subst this
        rw [hg] at hy; cases hy; exact Zc
  · have sG : k = fD.length := by omega
    refine fin _ 4 _ _ dC rfl rfl ?_
    rw [sJ]
    unfold nk
    rw [Nw (by subst sG; exact eV)]
    rfl
 have mw : fE (s.drop p) = match (s.drop p).takeWhile cO with
  | [] => nk (s.drop p)
  | c :: r => if dN c then (iD (c :: r), 2, c :: r) else if iN c = false then (4, 0, []) else if (c :: r) ∈ km then (0, 3, c :: r) else if 12 < (c :: r).length then (4, 0, []) else (0, 1, c :: r) := by
  unfold fE nk
  simp only
  cases (s.drop p).takeWhile cO <;> rfl
 have Zn : ((s.drop p).takeWhile cO).length <= 100000 := by
  have := (qM cO (l := s.drop p)).length_le
  simp at this; omega
 have yQ : ∀ c r, (s.drop p).takeWhile cO = c :: r -> cO c = true /\ ∃ r', s.drop p = c :: r' := fun c r h => by
  cases hd : s.drop p with
  | nil => rw [hd] at h; simp at h
  | cons d t =>
    rw [hd, nj] at h
    split at h
    · rename_i hc; cases h; exact ⟨hc, t, rfl⟩
    · cases h
 cases hw : (s.drop p).takeWhile cO with
 | nil =>
   rw [hw] at mw
   simp only [jt, show w_ = ([] : List UInt8) from rfl, bS, bV, ai, aI, aB, show (false == true) = false from rfl, a8, az, bq, if_false, aV]
   exact QO mw
 | cons c r =>
   rw [hw] at mw Zn
   obtain ⟨hca, r', ve⟩ := yQ c r hw
   have bQ : ¬ (c :: r = w_) := by simp [show w_ = ([] : List UInt8) from rfl]
   simp only [jt, bQ, cm, da, ai, aI, aB, dw, bp, aw, tZ, fT]
   refine ⟨by simp, _, Bz c, ?_⟩
   simp only [aw, az, if_true, ai]
   cases kK : iN c with
   | true =>
     have PG : dN c = false := by
      unfold iN at kK; unfold dN
      have h97 := of_decide_eq_true kK
      rw [decide_eq_false_iff_not]
      omega
     simp only [bh]
     simp only [PG, kK, bq, if_false, Bool.true_eq_false] at mw
     refine VL ?_
     simp only [bu]
     refine (JX .full km (c :: r) (by decide)).go ?_
     by_cases hk : (c :: r) ∈ km
     · simp only [hk, bS, bh]
       rw [if_pos hk] at mw
       exact fin _ 0 _ _ dC rfl rfl (by rw [mw]; rfl)
     · simp only [hk, cm, aV, gT, dD, ai, aX]
       rw [if_neg hk] at mw
       refine ⟨fun h => ?_, fun h => ?_⟩
       · rw [if_pos (by omega)] at mw
         exact fin _ 4 _ _ dC rfl rfl (by rw [mw]; rfl)
       · rw [if_neg (by omega)] at mw
         exact fin _ 0 _ _ dC rfl rfl (by rw [mw]; rfl)
   | false =>
     simp only [aV]
     refine ⟨by simp, _, vO c, ?_⟩
     simp only [aw, az, if_true, ai]
     cases PG : dN c with
     | true =>
       simp only [bh]
       simp only [PG, if_true] at mw
       refine (J0 (c :: r) Zn).go ?_
       simp only [ct, ai]
       by_cases he : iD (c :: r) = 0
       · simp only [he, bS, bV, aV]
         exact fin _ 0 _ _ dC rfl rfl (by rw [mw]; simp [o3, he]; rfl)
       · simp only [he, cm, da, bh]
         exact fin _ _ _ _ dC rfl rfl (by rw [mw]; simp [o3, he])
     | false =>
       simp only [aV]
       simp only [PG, kK, bq, if_false, if_true] at mw
       refine QO ?_
       rw [mw, ve, Om hca]
end Go.Rip
namespace Go.Rip
open Go.Proofs Go.RowKit
def M7 (v w : AV) : Prop := ∀ τ n l n' l', v = .vec n (.own τ) l -> w = .vec n' (.own τ) l' -> False
theorem M7.symm {v w : AV} (h : M7 v w) : M7 w v := fun τ n l n' l' h1 h2 => h τ n' l' n l h2 h1
theorem Grow.o9 {U ae : St} {v : AV} {e sz n : Nat} {l : List AV} (g : Grow U v e sz n l) (h : cJ U ae) : Grow ae v e sz n l := by
 rcases g with g | ⟨τ, h1, h2, h3⟩
 · exact .inl g
 · exact .inr ⟨τ, h1, h.tok h2, h3⟩
end Go.Rip
