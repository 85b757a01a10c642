/- Lemmas for the proof: no conditions. -/
import Derived.Test.YtnfpmiiopiinbaaGreatDoorRipZz
import Derived.Test.YtnfpmiiopiinbaaGreatDoorRipN
import Derived.Test.YtnfpmiiopiinbaaGreatDoorRipE
import Derived.Test.YtnfpmiiopiinbaaGreatDoorRipF
set_option linter.unusedVariables false
set_option linter.unusedSimpArgs false
set_option linter.loopingSimpArgs false
namespace Go.Rip
open Go.Proofs Go.RowKit
def cls (c : Int) : Int := if c = 32 \/ c = 10 then 1 else if c < 32 \/ c > 126 then 0 else if 48 <= c /\ c <= 57 then 2 else if 97 <= c /\ c <= 122 then 3 else if 65 <= c /\ c <= 90 then 4 else 5
theorem Au (c : Int) : Pure K 216 [.int .u8 c] (.int .i64 (cls c)) := by
 intro U R hR
 refine I9 ?_
 simp (contextual := true) only [I8, xd, u5, bf, bO, hZ, eA, fK, ag, aT, aI, mA, bT, bS, aC, aG, j6, Rw, br, bm, aX, cV, db, ite_true, ite_false, beq_true, beq_false, cu, dJ, dp, if_true, if_false, true_and, and_true, not_true, not_false_iff]
 repeat' (first | refine And.intro ?_ ?_ | intro _)
 all_goals (refine aj.eq hR ?_; simp only [cls, AV.int.injEq, true_and])
 all_goals grind
def Bg (l : List Int) (s : Int) : Int := match l.findIdx? (· = s) with | some i => i | none => -1
theorem CH (c : ik) (l : List Int) (s : Int) (hn : l.length <= 100000) : Pure K 246 [.vec l.length c (l.map (.int .i64)), .int .i64 s] (.int .i64 (Bg l s)) := by
 intro U R hR
 refine Jj ?_
 simp only [Ji, qI, ag]
 refine ⟨fun m v0 v1 v7 v8 ad => ∃ i : Nat, m = l.length - i /\ i <= l.length /\ v0 = .vec l.length c (l.map (.int .i64)) /\ v1 = .int .i64 s /\ v7 = .int .i64 l.length /\ v8 = .int .i64 i /\ ad = U /\ ∀ j, j < i -> l[j]? ≠ some s, ⟨l.length, 0, by simp [Fn.app]⟩, ?_⟩
 intro m v0 v1 v7 v8 ad hI
 obtain ⟨i, rfl, hi, rfl, rfl, rfl, rfl, rfl, fB⟩ := hI
 simp only [bO, ag, br]
 refine ⟨fun aH => ?_, fun iX => ?_⟩
 · have aH : i < l.length := by omega
   have hd : (l.map (AV.int .i64)).drop (i * 1) = .int .i64 l[i] :: (l.map (AV.int .i64)).drop (i + 1) := by
    rw [Nat.mul_one, fT (by simpa using aH)]; simp
   simp only [sD, wp_cond, ag, eF, hd, pC, cK, bf, br]
   refine ⟨by omega, fun he => ?_, fun bX => ?_⟩
   · refine aj.eq hR ?_
     have : l.findIdx? (· = s) = some i := by
      rw [BM]
      refine ⟨aH, by simp [he], fun j hj => ?_⟩
      have := fB j hj
      rw [j4 (by omega)] at this
      simpa using this
     simp [Bg, this]
   · simp only [hY, dI, wp_cond, ag]
     refine ⟨bh (by omega) (by omega), ?_⟩
     refine ⟨l.length - (i + 1), by omega, i + 1, rfl, by omega, rfl, rfl, rfl, by simp, rfl, fun j hj => ?_⟩
     rcases ga j i with h | h
     · exact fB j h
     · have : j = i := by omega
       subst this
       rw [j4 aH]; simpa using fun h => bX h.symm
 · refine aj.eq hR ?_
   have : l.findIdx? (· = s) = none := by
    rw [List.findIdx?_eq_none_iff]
    intro x hx
    obtain ⟨j, hj, rfl⟩ := List.getElem_of_mem hx
    have := fB j (by omega)
    rw [j4 hj] at this
    simpa using this
   simp [Bg, this]
theorem CF (l : List Int) (s : Int) : decide (0 <= Bg l s) = decide (s ∈ l) := by
 unfold Bg
 split
 · rename_i j hj
   obtain ⟨h1, h2, _⟩ := BM.1 hj
   have : s ∈ l := by have := of_decide_eq_true h2; exact this ▸ List.getElem_mem h1
   simp [this]
 · rename_i hj
   rw [List.findIdx?_eq_none_iff] at hj
   have : s ∉ l := fun hm => by simpa using hj s hm
   simp [this]
theorem rE (c : Int) (cp : ik) (l : List Int) (hn : l.length <= 100000) : Pure K 151 [.int .u8 c, .vec l.length cp (l.map (.int .i64))] (.bool (decide (cls c ∈ l))) := by
 intro U R hR
 refine Ih ?_
 refine (Au c).go ?_
 refine I7 ?_
 refine (CH cp l (cls c) hn).go ?_
 simp only [fK, ag, CF]
 exact aj.mk (aj.mk hR)
theorem zc (c : UInt8) : decide (cls c.toNat ∈ [2]) = fA c := by
 unfold cls fA
 rw [mC]
 simp only [kO, dp]
 grind
theorem G1 (c : UInt8) : decide (cls c.toNat ∈ [3]) = nh c := by
 unfold cls nh
 rw [mC]
 simp only [kO, dp]
 grind
theorem GY (c : UInt8) : decide (cls c.toNat ∈ [2, 3, 4]) = dG c := by
 unfold cls dG fA nh EK
 rw [mC]
 simp only [dD, List.not_mem_nil, or_false, dp, gM]
 grind
theorem G0 (c : UInt8) : (!decide (cls c.toNat ∈ [0])) = ml c := by
 unfold cls ml
 rw [mC]
 simp only [kO, dp, Bool.not_eq_true', decide_eq_false_iff_not]
 grind
theorem CI (c : UInt8) : Pure K 146 [.int .u8 c.toNat] (.bool (ml c)) := by
 intro U R hR
 refine H4 ?_
 unfold H3
 rw [fG]
 refine ⟨by omega, ?_⟩
 rw [ee (o := 0) (s := 1) rfl]
 refine ⟨⟨rfl, rfl, by simp [bp]⟩, ?_⟩
 rw [gw]
 refine ⟨rfl, ?_⟩
 refine (rE c.toNat .full [0] (by simp)).go ?_
 simp only [dm, ag, G0]
 exact aj.mk hR
theorem getD_at {s : aW} {i : Nat} (h : i < s.length) : s.getD i 0 = s[i] := by simp [yo, h]
theorem J3 (s : aW) : Pure K 74 [.str s] (.aL [.int .i64 (pT s).1, .int .i64 (pT s).2]) := by
 intro U R hR
 refine Lp ?_
 unfold M5
 simp only [kr, ag, eA, br]
 unfold pT at hR
 refine ⟨fun h => ?_, fun h => ?_⟩
 · rw [if_pos (by omega)] at hR
   exact aj.mk hR
 · rw [if_neg (by omega)] at hR
   refine ⟨fun m v0 v9 v10 ad => ∃ i : Nat, m = s.length - i /\ i <= s.length /\ v0 = .str s /\ v9 = .int .i64 s.length /\ v10 = .int .i64 i /\ ad = U /\ ∀ j (hj : j < s.length), j < i -> ml s[j] = true, ⟨s.length, 0, by simp [Fn.app]⟩, ?_⟩
   rintro m v0 v9 v10 ad ⟨i, rfl, hi, rfl, rfl, rfl, rfl, bw⟩
   simp only [bO, ag, br]
   refine ⟨fun aH => ?_, fun iX => ?_⟩
   · have aH : i < s.length := by omega
     rw [xG]
     refine ⟨by omega, ?_⟩
     rw [eF, getD_at aH]
     refine (CI s[i]).go ?_
     simp only [dm, ag]
     cases hb : ml s[i] with
     | false =>
       simp only [dJ, bm]
       have : s.findIdx? (fun c => !ml c) = some i := by
        rw [BM]
        exact ⟨aH, by simp [hb], fun j hj => by simp [bw j (by omega) hj]⟩
       rw [this] at hR
       exact aj.mk hR
     | true =>
       simp only [cu, aX, cW]
       refine ⟨bh (by omega) (by omega), s.length - (i + 1), by omega, i + 1, rfl, by omega, rfl, rfl, by simp, rfl, fun j hj qz => ?_⟩
       rcases ga j i with h | h
       · exact bw j hj h
       · have : j = i := by omega
         subst this; exact hb
   · have : s.findIdx? (fun c => !ml c) = none := by
      rw [List.findIdx?_eq_none_iff]
      intro x hx
      obtain ⟨j, hj, rfl⟩ := List.getElem_of_mem hx
      simp [bw j hj (by omega)]
     rw [this] at hR
     exact aj.mk hR
theorem sG {p : UInt8 -> Bool} : ∀ {l : aW}, (∀ x ∈ l, p x = true) -> l.takeWhile p = l
 | [], _ => rfl
 | c :: l, h => by rw [rV, h c (by simp)]; simp [sG (l := l) fun x hx => h x (by simp [hx])]
theorem run_pure (s : aW) (hs : s.length <= 100000) : Pure K 149 [.str s] (.int .i64 (s.takeWhile dG).length) := by
 intro U R hR
 refine Ic ?_
 unfold Ib
 refine ⟨fun m v0 v2 ad => ∃ i : Nat, m = s.length - i /\ i <= s.length /\ v0 = .str s /\ v2 = .int .i64 i /\ ad = U /\ ∀ j (hj : j < s.length), j < i -> dG s[j] = true, ⟨s.length, 0, by simp [Fn.app]⟩, ?_⟩
 rintro m v0 v2 ad ⟨i, rfl, hi, rfl, rfl, rfl, bw⟩
 have tl : (s.take i).takeWhile dG = s.take i := by
  refine sG fun x hx => ?_
  obtain ⟨j, hj, rfl⟩ := List.getElem_of_mem hx
  simp only [List.length_take] at hj
  rw [List.getElem_take]
  exact bw j (by omega) (by omega)
 have Dw : s.takeWhile dG = s.take i ++ (s.drop i).takeWhile dG := by
  conv => lhs; rw [<- List.take_append_drop i s]
  rw [List.takeWhile_append, tl]
  simp
 simp only [kr, ag, bO, aT, aI]
 by_cases aH : i < s.length
 · have nG : (i : Int) < s.length := by omega
   simp only [nG, cV, fC, bT, aC, Fk, j6, eF, getD_at aH]
   refine ⟨by simp, ?_⟩
   rw [vM]
   refine ⟨by omega, ?_⟩
   rw [tJ (o := 0) (s := 1) rfl]
   refine ⟨⟨rfl, rfl, by simp [bp]⟩, ?_⟩
   rw [tJ (o := 1) (s := 1) rfl]
   refine ⟨⟨rfl, rfl, by simp [bp, aB]⟩, ?_⟩
   rw [tJ (o := 2) (s := 1) rfl]
   refine ⟨⟨rfl, rfl, by simp [bp, aB]⟩, ?_⟩
   rw [ym]
   refine ⟨rfl, _, rE s[i].toNat .full [2, 3, 4] (by simp), ?_⟩
   rw [GY]
   simp only [aG, if_true, ag]
   have hd : s.drop i = s[i] :: s.drop (i + 1) := fT aH
   cases hb : dG s[i] with
   | true =>
     simp only [bm, cW]
     refine ⟨bh (by omega) (by omega), s.length - (i + 1), by omega, i + 1, rfl, by omega, rfl, by simp, rfl, fun j hj qz => ?_⟩
     rcases ga j i with h | h
     · exact bw j hj h
     · have : j = i := by omega
       subst this; exact hb
   | false =>
     simp only [aX]
     refine aj.eq hR ?_
     rw [Dw, hd, rV, hb]
     simp
     omega
 · have nG : ¬ (i : Int) < s.length := by omega
   simp only [nG, db, show (false == true) = false from rfl, bS, aG, bl, if_false, ag, aX]
   refine aj.eq hR ?_
   rw [Dw, List.drop_eq_nil_of_le (by omega)]
   simp; omega
end Go.Rip
namespace Go.Rip
open Go.Proofs Go.RowKit
theorem Ho {s : aW} {i : Nat} (h : i < s.length) : gl 0 (s.take (i + 1)) = min (10 * gl 0 (s.take i) + ((s[i].toNat : Int) - 48)) 1000001 := by
 have : s.take (i + 1) = s.take i ++ [s[i]] := by rw [tP, j4 h]; rfl
 rw [this]
 unfold gl
 rw [List.foldl_append]
 rfl
theorem CP (s : aW) (hs : s.length <= 100000) : Pure K 152 [.str s] (.int .i64 (lG s)) := by
 intro U R hR
 refine Ij ?_
 unfold Ii
 simp only [kr, ag]
 refine ⟨fun m v0 v3 v6 v7 ad => ∃ i : Nat, m = s.length - i /\ i <= s.length /\ v0 = .str s /\ v3 = .int .i64 (gl 0 (s.take i)) /\ v6 = .int .i64 s.length /\ v7 = .int .i64 i /\ ad = U /\ (s.take i).all fA = true, ⟨s.length, 0, by simp [Fn.app, gl]⟩, ?_⟩
 rintro m v0 v3 v6 v7 ad ⟨i, rfl, hi, rfl, rfl, rfl, rfl, rfl, bw⟩
 have hb := DJ (s.take i) 0 (by omega)
 have uQ := qK (s.take i) 0 bw (by omega)
 simp only [bO, ag, br]
 refine ⟨fun aH => ?_, fun iX => ?_⟩
 · have aH : i < s.length := by omega
   rw [xG]
   refine ⟨by omega, ?_⟩
   rw [eF, getD_at aH, fG]
   refine ⟨by omega, ?_⟩
   rw [ee (o := 0) (s := 1) rfl]
   refine ⟨⟨rfl, rfl, by simp [bp]⟩, ?_⟩
   rw [gw]
   refine ⟨rfl, ?_⟩
   refine (rE s[i].toNat .full [2] (by simp)).go ?_
   rw [zc]
   simp only [dm, ag]
   have et : s.take (i + 1) = s.take i ++ [s[i]] := by rw [tP, j4 aH]; rfl
   cases hd : fA s[i] with
   | false =>
     simp only [dJ, bm]
     refine aj.eq hR ?_
     have : s.all fA = false := by
      rw [Bool.eq_false_iff]
      intro h
      rw [dU] at h
      rw [h s[i] (List.getElem_mem aH)] at hd
      cases hd
     simp [lG, this]
   | true =>
     have hc := jX.1 hd
     simp only [cu, aX, Um]
     refine ⟨bh (by omega) (by omega), ?_⟩
     rw [xG]
     refine ⟨by omega, ?_⟩
     rw [eF, getD_at aH]
     have hw : IntKind.u8.wrap ((s[i].toNat : Int) - 48) = (s[i].toNat : Int) - 48 := by
      show ((s[i].toNat : Int) - 48) % 256 = _
      omega
     simp only [fL, JX, ag, hw, zP, wp_cond, cW, N5]
     refine ⟨bh (by omega) (by omega), bh (by omega) (by omega), bh (by omega) (by omega), ?_⟩
     refine ⟨s.length - (i + 1), by omega, i + 1, rfl, by omega, rfl, ?_, rfl, by simp, rfl, ?_⟩
     · rw [Ho aH]
       congr 1
       omega
     · rw [et, List.all_append, bw]; simp [hd]
 · have hi : i = s.length := by omega
   subst hi
   rw [tO] at bw hb uQ ⊢
   have hv : BC s = gl 0 s := rfl
   simp only [kr, ag, eA, aT, aI]
   by_cases h1 : 1 < s.length
   · have AI : (1 : Int) < s.length := by omega
     simp only [AI, cV, fC, bT, aC, Fk, j6, bf, aG, if_true, ag, br]
     have h0 : s.getD (0 : Int).toNat 0 = s[0] := getD_at (by omega)
     rw [h0]
     have hh : s.head? = some s[0] := by
      cases s with
      | nil => simp at h1
      | cons c r => rfl
     refine ⟨⟨by omega, by omega⟩, fun Gq => ?_, fun Gq => ⟨fun hm => ?_, fun hm => ?_⟩⟩
     · refine aj.eq hR ?_
       have Xj : s[0].toNat = (48 : UInt8).toNat := by show s[0].toNat = 48; omega
       have : s[0] = 48 := UInt8.toNat_inj.1 Xj
       simp [lG, bw, h1, hh, this]
     · refine aj.eq hR ?_
       have : ¬ s[0] = 48 := fun e => Gq (by rw [e]; rfl)
       simp [lG, bw, hh, this, hv, hm]
     · refine aj.eq hR ?_
       have : ¬ s[0] = 48 := fun e => Gq (by rw [e]; rfl)
       simp [lG, bw, hh, this, hv, hm]
   · have AI : ¬ (1 : Int) < s.length := by omega
     simp only [AI, db, show (false == true) = false from rfl, bS, aG, bl, if_false, ag, aX, br]
     refine ⟨fun hm => ?_, fun hm => ?_⟩
     · refine aj.eq hR ?_
       simp [lG, bw, h1, hv, hm]
     · refine aj.eq hR ?_
       simp [lG, bw, h1, hv, hm]
theorem qw (s p : aW) : Pure K 213 [.str s, .str p] (.bool (p.isPrefixOf s)) :=
 Pure.vI (vs := [.string ⟨s.toArray⟩, .string ⟨p.toArray⟩]) (v := .bool (p.isPrefixOf s)) (fun g us h => by
  simp only [ar, ak] at h
  obtain ⟨_, _, rfl, rfl, _, _, rfl, rfl, rfl⟩ := h; rfl) (fun g => by simp only [ak]) fun w => Tryz.strings_HasPrefix ⟨s.toArray⟩ ⟨p.toArray⟩ w
theorem sd (s : aW) : (p9.find? fun x => x.isPrefixOf s) = if cw.isPrefixOf s then some cw else if ij.isPrefixOf s then some ij else match s with
 | [] => none
 | c :: _ => if c ∈ cE then some [c] else none := by
 cases s with
 | nil => rfl
 | cons c r =>
   by_cases h1 : cw.isPrefixOf (c :: r) = true
   · simp only [p9, List.find?_cons, h1, if_true]
   · by_cases h2 : ij.isPrefixOf (c :: r) = true
     · simp only [p9, List.find?_cons, h1, h2, if_true, bl, if_false]
     · simp only [p9, List.find?_cons, h1, h2, bl, if_false]
       have e : ∀ x : UInt8, [x].isPrefixOf (c :: r) = (x == c) := fun x => by simp [List.isPrefixOf]
       simp only [show xE = [61] from rfl, show xD = [60] from rfl, show xz = [43] from rfl, show xB = [45] from rfl, show xy = [42] from rfl, show oe = [33] from rfl, show og = [40] from rfl, show pN = [41] from rfl, show xF = [123] from rfl, show z7 = [125] from rfl, show xA = [44] from rfl, show sh = [59] from rfl, show xC = [58] from rfl, show z6 = [46] from rfl, e]
       by_cases hc : c ∈ cE
       · rw [if_pos hc]
         simp only [cE, dD, List.not_mem_nil, or_false] at hc
         rcases hc with rfl | rfl | rfl | rfl | rfl | rfl | rfl | rfl | rfl | rfl | rfl | rfl | rfl | rfl <;> rfl
       · rw [if_neg hc]
         simp only [cE, dD, List.not_mem_nil, or_false, not_or] at hc
         have f : ∀ x : UInt8, ¬ c = x -> (x == c) = false := fun x h => by simp [Ne.symm h]
         simp only [f _ hc.1, f _ hc.2.1, f _ hc.2.2.1, f _ hc.2.2.2.1, f _ hc.2.2.2.2.1, f _ hc.2.2.2.2.2.1, f _ hc.2.2.2.2.2.2.1, f _ hc.2.2.2.2.2.2.2.1, f _ hc.2.2.2.2.2.2.2.2.1, f _ hc.2.2.2.2.2.2.2.2.2.1, f _ hc.2.2.2.2.2.2.2.2.2.2.1, f _ hc.2.2.2.2.2.2.2.2.2.2.2.1, f _ hc.2.2.2.2.2.2.2.2.2.2.2.2.1, f _ hc.2.2.2.2.2.2.2.2.2.2.2.2.2, List.find?_nil]
theorem Bh (l : List UInt8) (c : UInt8) : decide (Lib.indexByte l c < 0) = !decide (c ∈ l) := by
 induction l with
 | nil => simp [Lib.indexByte]
 | cons b l ih =>
   have hg := Lib.indexByte_ge l c
   unfold Lib.indexByte
   by_cases h : b = c
   · subst h; simp
   · have hc : ¬ c = b := fun e => h e.symm
     have h' : (b == c) = false := by simp [h]
     rw [h']
     by_cases hm : c ∈ l
     · simp only [hm, cV, cu, decide_eq_false_iff_not] at ih
       have h2 : (Lib.indexByte l c == -1) = false := by simp; omega
       simp [h2, hm]; omega
     · simp only [hm, db, dJ, dp] at ih
       have h2 : (Lib.indexByte l c == -1) = true := by simp; omega
       simp [h2, hm, hc]
def tW (s : aW) : Int × Nat × aW := match p9.find? fun x => x.isPrefixOf s with | some x => (0, 4, x) | none => (4, 0, [])
def Fy (p : Int × Nat × aW) : AV := .aL [.agg [.int .u8 p.2.1, .str p.2.2, .int .i64 0], .int .i64 p.1]
theorem Js (s : aW) (hs : s.length <= 100000) : Pure K 150 [.str s] (Fy (tW s)) := by
 refine Pure.of rfl rfl (fun U => rfl) fun R hR => ?_
 refine Ig ?_
 unfold Ie
 rw [dv]
 intro b hb
 generalize kZ : (bj _).new b _ = U
 have fq : U.box b = some [AV.int .u8 0, AV.str [], AV.int .i64 0] := by rw [<- kZ]; exact aN
 clear kZ hb
 have L6 : ∀ {K' : AV -> St -> Prop} {Kp : AV -> St -> Prop} {z : List AV} {ps : List (Nat × AV)} {U : St}, (dO none (some z) (some (2, 9, 1)) ps).wp K U K' Kp = (dY (fun i => some (i * 1, 1)) ps z fun z => .val (.agg z)).wp K U K' Kp := rfl
 rw [L6, ee (o := 0) (s := 1) rfl]
 refine ⟨⟨rfl, rfl, by simp⟩, ?_⟩
 rw [ee (o := 1) (s := 1) rfl]
 refine ⟨⟨rfl, rfl, by simp [aB]⟩, ?_⟩
 rw [OE]
 have fin : ∀ (k : Nat) (x : aW) (e : Int) (ps : List (Nat × AV)) (ad : St), ad.box b = some [AV.int .u8 0, AV.str [], AV.int .i64 0] -> xQ [(0, 1), (1, 1), (2, 1)] ps [AV.int .u8 0, AV.str [], AV.int .i64 0] = some [.int .u8 k, .str x, .int .i64 0] -> tW s = (e, k, x) ->
  (dO (some [(0, 1), (1, 1), (2, 1)]) (some [AV.int .u8 0, AV.str [], AV.int .i64 0]) none ps).wp K ad (fun v U => (aM (some (true, 3)) (.box b 0) v U).wp K U (fun _ U => bI (some (true, 3)) (.box b 0) U fun r0 => aj R (.aL [r0, .int .i64 e]) U) (aa R)) (aa R) := by
  intro k x e ps ad dz h1 h2
  refine pc _ h1 ?_
  rw [dh dz]
  refine ⟨⟨rfl, rfl, by simp⟩, ?_⟩
  rw [xf aZ]
  refine ⟨by simp [aB], ?_⟩
  rw [h2] at hR
  exact aj.eq (hR _) rfl
 refine ⟨fun m v0 v2 v6 v7 ad => ∃ i : Nat, m = 2 - i /\ i <= 2 /\ v0 = .str s /\ v2 = .box b 0 /\ v6 = .agg [.str cw, .str ij] /\ v7 = .int .i64 i /\ ad.box b = some [AV.int .u8 0, AV.str [], AV.int .i64 0] /\ (0 < i -> cw.isPrefixOf s = false) /\ (1 < i -> ij.isPrefixOf s = false),
  ⟨2, 0, rfl, by omega, rfl, rfl, rfl, rfl, fq, by simp, by simp⟩, ?_⟩
 rintro m v0 v2 v6 v7 ad ⟨i, rfl, hi, rfl, rfl, rfl, rfl, dz, wL, Yg⟩
 simp only [bO, ag, br]
 refine ⟨fun aH => ?_, fun iX => ?_⟩
 · have aH : i < 2 := by omega
   obtain rfl | rfl : i = 0 \/ i = 1 := by omega
   · simp only [ff, wp_cond]
     refine ⟨by omega, ?_⟩
     simp only [show ((0 : Nat) : Int).toNat * 1 = 0 from rfl, List.drop, eR, ag]
     refine (qw s cw).go ?_
     cases hp : cw.isPrefixOf s with
     | true =>
       simp only [bm]
       refine fin 4 cw 0 _ ad dz rfl ?_
       simp [tW, sd, hp]
     | false =>
       simp only [aX, cW]
       exact ⟨bh (by omega) (by omega), 1, by omega, 1, rfl, by omega, rfl, rfl, rfl, rfl, dz, fun _ => by first | exact hp | trivial, by simp⟩
   · simp only [ff, wp_cond]
     refine ⟨by omega, ?_⟩
     simp only [show ((1 : Nat) : Int).toNat * 1 = 1 from rfl, List.drop, eR, ag]
     refine (qw s ij).go ?_
     cases hp : ij.isPrefixOf s with
     | true =>
       simp only [bm]
       refine fin 4 ij 0 _ ad dz rfl ?_
       simp [tW, sd, hp, wL (by omega)]
     | false =>
       simp only [aX, cW]
       exact ⟨bh (by omega) (by omega), 0, by omega, 2, rfl, by omega, rfl, rfl, rfl, rfl, dz, fun _ => wL (by omega), fun _ => by first | exact hp | trivial⟩
 · have XX : i = 2 := by omega
   subst XX
   have p0 := wL (by omega)
   have p1 := Yg (by omega)
   simp only [na, ag, aT, aI]
   cases s with
   | nil =>
     simp only [show w_ = ([] : List UInt8) from rfl, cV, show (true == false) = false from rfl, bS, aG, if_true, ag, bm]
     exact fin 0 [] 4 _ ad dz rfl rfl
   | cons c r =>
     have bX : ¬ (c :: r = w_) := by simp [show w_ = ([] : List UInt8) from rfl]
     simp only [bX, db, fC, bT, aC, Fk, j6, aG, bl, if_false, ag]
     refine ⟨by simp, _, qF cE c.toNat, ?_⟩
     simp only [bO, aC, aG, bl, if_false, ag]
     have XH : ((c.toNat : Int).toNat).toUInt8 = c := by simp
     rw [XH, Bh]
     cases hm : decide (c ∈ cE) with
     | false =>
       have GH : ¬ c ∈ cE := by simpa using hm
       simp only [dJ, bm]
       refine fin 0 [] 4 _ ad dz rfl ?_
       simp [tW, sd, p0, p1, GH]
     | true =>
       have GH : c ∈ cE := by simpa using hm
       simp only [cu, aX, nx, ja, jT, wp_cond, ag]
       refine ⟨⟨by omega, by omega, by simp; omega⟩, ?_⟩
       refine fin 4 [c] 0 _ ad dz rfl ?_
       simp [tW, sd, p0, p1, GH]
end Go.Rip
namespace Go.Rip
open Go.Proofs Go.RowKit
theorem Bs (s : aW) : ∀ l : List aW, jf .s (.str s) (.bool false) false (l.map .str) (l.map fun _ => .bool true) = .val (.bool (decide (s ∈ l)))
 | [] => by simp [jf]
 | x :: l => by
   simp only [de, jf, eD]
   by_cases h : s = x
   · subst h; simp
   · rw [show (s == x) = false by simp [h]]
     have := Bs s l
     simp only [bl, if_false, this]
     simp [h]
theorem JN : xJ = .dL (mQ.map .str) (mQ.map fun _ => .bool true) := rfl
theorem FQ (s : aW) (U : St) : ez (some (.s, 4)) (some (AV.bool false)) xJ (.str s) false U = .val (.bool (decide (s ∈ mQ))) := by
 rw [JN]
 simp only [ez, jb, mq]
 exact Bs s mQ
theorem Eh (s : aW) (hs : s.length <= 100000) : Pure K 77 [.str s] (Fy (gN s)) := by
 refine Pure.of rfl rfl (fun U => rfl) fun R hR => ?_
 refine Ls ?_
 unfold M8
 rw [dv]
 intro b hb
 generalize kZ : (bj _).new b _ = U
 have fq : U.box b = some [AV.int .u8 0, AV.str [], AV.int .i64 0] := by rw [<- kZ]; exact aN
 clear kZ hb
 refine (run_pure s hs).go ?_
 have tl : s.take (s.takeWhile dG).length = s.takeWhile dG := by
  have := List.takeWhile_prefix dG (l := s)
  exact (List.prefix_iff_eq_take.1 this).symm
 have hle : (s.takeWhile dG).length <= s.length := (List.takeWhile_prefix dG).length_le
 simp only [nx, ja, jT, wp_cond, ag, eF, tl, show (0 : Int).toNat = 0 from rfl, dC, na, br]
 refine ⟨⟨by omega, by omega, by omega⟩, fun h0 => ?_, fun h0 => ?_⟩
 · have h0 : s.takeWhile dG = [] := h0
   refine (Js s hs).go ?_
   simp only [Fy, bP, List.drop, bD]
   rw [dh fq]
   refine ⟨⟨rfl, rfl, by simp⟩, ?_⟩
   rw [xf aZ]
   refine ⟨by simp [aB], aj.eq (hR _) ?_⟩
   have : gN s = tW s := by unfold gN tW; rw [h0]; rfl
   rw [this]; rfl
 · cases hw : s.takeWhile dG with
   | nil => exact absurd hw h0
   | cons c r =>
     have ZK : (c :: r).length <= s.length := by rw [<- hw]; exact hle
     have ht : gN s = if fA c then (lG (c :: r), 2, c :: r) else if nh c = false then (4, 0, []) else if (c :: r) ∈ mQ then (0, 3, c :: r) else if 12 < (c :: r).length then (4, 0, []) else (0, 1, c :: r) := by
      unfold gN; rw [hw]
     have fin : ∀ (k : Nat) (x : aW) (e : Int) (zs : List AV) (ad : St), zs = [.int .u8 k, .str x, .int .i64 0] -> ad.box b = some [AV.int .u8 0, AV.str [], AV.int .i64 0] -> gN s = (e, k, x) ->
      (aM (some (true, 3)) (.box b 0) (.agg zs) ad).wp K ad (fun _ U => bI (some (true, 3)) (.box b 0) U fun r0 => aj R (.aL [r0, .int .i64 e]) U) (aa R) := by
      intro k x e zs ad hz dz h2
      subst hz
      rw [dh dz]
      refine ⟨⟨rfl, rfl, by simp⟩, ?_⟩
      rw [xf aZ]
      refine ⟨by simp [aB], ?_⟩
      rw [h2] at hR
      exact aj.eq (hR _) rfl
     have one : ∀ (cl : Int) (K' : AV -> St -> Prop) (ad : St), K' (.bool (decide (cls c.toNat ∈ [cl]))) ad ->
      (ff true none none (.str (c :: r)) (.int .i64 0)).wp K ad (fun cz U => (aD (some (178, 1)) (some [AV.int .i64 0]) 1 false [(0, (AV.int .i64 cl))]).wp K U (fun dE U => ae K 151 [cz, dE] U (al K' (aa R))) (aa R)) (aa R) := by
      intro cl K' ad h
      rw [xG]
      refine ⟨⟨by omega, by simp⟩, ?_⟩
      rw [fG]
      refine ⟨by omega, ?_⟩
      rw [ee (o := 0) (s := 1) rfl]
      refine ⟨⟨rfl, rfl, by simp [bp]⟩, ?_⟩
      rw [gw]
      refine ⟨rfl, ?_⟩
      exact (rE c.toNat .full [cl] (by simp)).go h
     refine one 2 _ _ ?_
     rw [zc]
     cases hd : fA c with
     | true =>
       simp only [bm]
       refine pc [.int .u8 2, .str (c :: r), .int .i64 0] rfl ?_
       refine (CP (c :: r) (by omega)).go ?_
       exact fin 2 (c :: r) _ _ _ rfl fq (by rw [ht, if_pos hd])
     | false =>
       simp only [aX]
       refine one 3 _ _ ?_
       rw [G1]
       simp only [dm, ag]
       have sA : ¬ (fA c = true) := by rw [hd]; simp
       cases mi : nh c with
       | false =>
         simp only [dJ, bm]
         refine pc [.int .u8 0, .str [], .int .i64 0] rfl ?_
         exact fin 0 [] _ _ _ rfl fq (by rw [ht, if_neg sA, if_pos mi])
       | true =>
         have c7 : ¬ (nh c = false) := by rw [mi]; simp
         simp only [cu, aX]
         refine xL.go ?_
         simp only [FQ, ag, br, kr, eA]
         refine ⟨fun hk => ?_, fun hk => ⟨fun hl => ?_, fun hl => ?_⟩⟩
         · refine pc [.int .u8 3, .str (c :: r), .int .i64 0] rfl ?_
           exact fin 3 (c :: r) _ _ _ rfl fq (by rw [ht, if_neg sA, if_neg c7, if_pos hk])
         · refine pc [.int .u8 0, .str [], .int .i64 0] rfl ?_
           exact fin 0 [] _ _ _ rfl fq (by rw [ht, if_neg sA, if_neg c7, if_neg hk, if_pos (by omega)])
         · refine pc [.int .u8 1, .str (c :: r), .int .i64 0] rfl ?_
           exact fin 1 (c :: r) _ _ _ rfl fq (by rw [ht, if_neg sA, if_neg c7, if_neg hk, if_neg (by omega)])
end Go.Rip
namespace Go.Rip
open Go.Proofs Go.RowKit
theorem xp (u : aW) : (Lib.indexByte u 10 = -1 /\ u.takeWhile (fun c => c.toNat ≠ 10) = u) \/ ∃ k : Nat, Lib.indexByte u 10 = k /\ k < u.length /\ u.takeWhile (fun c => c.toNat ≠ 10) = u.take k := by
 have lQ : ∀ c : UInt8, c.toNat = 10 ↔ c = 10 := fun c => ⟨fun h => UInt8.toNat_inj.1 h, fun h => by rw [h]; rfl⟩
 induction u with
 | nil => left; exact ⟨rfl, rfl⟩
 | cons b u ih =>
   unfold Lib.indexByte
   by_cases hb : b = 10
   · right
     refine ⟨0, by simp [hb], by simp, ?_⟩
     rw [rV]
     simp [(lQ b).2 hb]
   · have dz : (b == 10) = false := by simp [hb]
     have hn : (decide (b.toNat ≠ 10)) = true := by simp [lQ, hb]
     rw [rV, hn]
     rcases ih with ⟨h1, h2⟩ | ⟨k, h1, h2, h3⟩
     · left; rw [h1, h2]; simp [dz]
     · right
       refine ⟨k + 1, ?_, by simp; omega, ?_⟩
       · rw [h1, dz]
         have : ((k : Int) == -1) = false := by simp
         simp [this]
       · simp only [if_true, List.take_succ_cons, h3]
theorem J4 (u : aW) (hu : u.length <= 100000) : ∃ y z, Pure K 148 [.str u, .str xx] (.aL [.str (u.takeWhile fun c => c.toNat ≠ 10), y, z]) := by
 have go : ∀ x y z, Pure K 212 [.str u, .str xx] (.aL [x, y, z]) -> Pure K 148 [.str u, .str xx] (.aL [x, y, z]) := fun x y z h U R hR => by
  refine Ia ?_
  refine h.go ?_
  simp only [bP, List.drop, bD]
  exact aj.mk hR
 have hi := qG u 10
 rcases xp u with ⟨h1, h2⟩ | ⟨k, h1, h2, h3⟩
 · refine ⟨_, _, go _ (.str w_) (.bool false) fun U R hR => ?_⟩
   refine zw ?_
   refine hi.go ?_
   rw [h1]
   simp only [fK, ag, show decide ((0 : Int) <= -1) = false from rfl, aX]
   rw [h2] at hR
   exact aj.mk hR
 · refine ⟨_, _, go _ (.str (u.drop (k + 1))) (.bool true) fun U R hR => ?_⟩
   refine zw ?_
   refine hi.go ?_
   rw [h1]
   have h0 : decide ((0 : Int) <= (k : Nat)) = true := by simp
   simp only [fK, ag, h0, bm, nx, ja, jT, fP, aC, kr, zW, show (xx : List UInt8).length = 1 from rfl, eF]
   refine ⟨⟨by omega, by omega, by omega⟩, bh (by omega) (by omega), ⟨by omega, by omega, by omega⟩, ?_⟩
   rw [h3] at hR
   refine aj.eq hR ?_
   have e1 : ((k : Int) + ((1 : Nat) : Int)).toNat = k + 1 := by omega
   simp [e1]
theorem NN {U : St} {R : cm -> St -> Prop} {b n : Nat} {c : ik} {l : List Tk} {t : Tk} {a : AV} (hb : U.box b = some [.vec n c (fF (l ++ [t]))]) (hn : n = l.length + 1) (hl : l.length <= 900) (h : R (.ret (.int .i64 t.s.length)) U) : ae K 75 [a, .box b 0] U R := by
 refine Lq ?_
 subst hn
 unfold M6
 simp only [eK hb, List.drop, bD, qI, ag, Un]
 refine ⟨bh (by omega) (by omega), ?_⟩
 rw [L7]
 refine ⟨by omega, ?_⟩
 have e : (((l.length + 1 : Nat) : Int) - 1).toNat = l.length := by omega
 rw [e]
 obtain ⟨r, hr⟩ := yA (L := l ++ [t]) (i := l.length) (t := t) (by simp)
 rw [hr]
 simp only [cJ, ag, lk, jn, List.drop, o8, bD, kr]
 exact aj.mk h
def sf (l : List Tk) : AV := if l = [] then .aq else .vec l.length .gq (fF l)
theorem vb (l l' : List Tk) : fF (l ++ l') = fF l ++ fF l' := by simp [fF]
structure TI (U : St) (b1 b2 b3 b4 b7 bs bd : Nat) (s : aW) (l : List Tk) : Prop where
 h1 : U.box b1 = some [.str s]
 h2 : ∃ x, U.box b2 = some [x]
 h3 : ∃ x, U.box b3 = some [x]
 h4 : ∃ x, U.box b4 = some [x]
 h7 : ∃ v, U.box b7 = some [v] /\ Grow U v 51 3 l.length (fF l) /\ (l = [] -> v = .aq)
 hs : U.box bs = some [.str s]
 hd : U.box bd = some [.func (.func 75) [] [.box b7 0]]
theorem eE {U ad : St} {b : Nat} (h : ad.live b = U.live b) : ad.loop b = U.loop b := by simp [St.loop, h]
theorem eV {U : St} {b : Nat} {L : eg} : (U.set b (.loop L)).loop b = some L := by simp [St.loop, dM]
theorem uX {U : St} {b : Nat} {L : eg} : (U.new b (.loop L)).loop b = some L := by simp [St.loop, lE]
theorem bE {U : St} {b b' : Nat} {l : List AV} {L : eg} (h : U.box b = some l) (k : U.loop b' = some L) : b ≠ b' := by
 rintro rfl
 unfold St.box at h; unfold St.loop at k
 split at k
 · rename_i e; simp [e] at h
 · cases k
theorem qd {U : St} {b b' : Nat} {l : Tok} {L : eg} (h : U.tok b = some l) (k : U.loop b' = some L) : b ≠ b' := by
 rintro rfl
 unfold St.tok at h; unfold St.loop at k
 split at k
 · rename_i e; simp [e] at h
 · cases k
theorem TI.mU {U : St} {b1 b2 b3 b4 b7 bs bd o : Nat} {s : aW} {l : List Tk} (T : TI U b1 b2 b3 b4 b7 bs bd s l) {L L' : eg} (hL : U.loop o = some L) : TI (U.set o (.loop L')) b1 b2 b3 b4 b7 bs bd s l := by
 have k : ∀ {b : Nat} {x : List AV}, U.box b = some x -> (U.set o (.loop L')).box b = some x := fun h => by rw [aP (bE h hL)]; exact h
 obtain ⟨v, g1, g2, g3⟩ := T.h7
 refine ⟨k T.h1, T.h2.imp fun _ h => k h, T.h3.imp fun _ h => k h, T.h4.imp fun _ h => k h, ⟨v, k g1, ?_, g3⟩, k T.hs, k T.hd⟩
 rcases g2 with g2 | ⟨τ, e, ht, hl⟩
 · exact .inl g2
 · exact .inr ⟨τ, e, by rw [gn (qd ht hL)]; exact ht, hl⟩
theorem TI.uM {U ad : St} {b1 b2 b3 b4 b7 bs bd : Nat} {s : aW} {l : List Tk} (T : TI U b1 b2 b3 b4 b7 bs bd s l) (e : cF U ad) : TI ad b1 b2 b3 b4 b7 bs bd s l := by
 obtain ⟨v, g1, g2, g3⟩ := T.h7
 refine ⟨e.bA T.h1, T.h2.imp fun _ h => e.bA h, T.h3.imp fun _ h => e.bA h, T.h4.imp fun _ h => e.bA h, ⟨v, e.bA g1, ?_, g3⟩, e.bA T.hs, e.bA T.hd⟩
 rcases g2 with g2 | ⟨τ, e1, ht, hl⟩
 · exact .inl g2
 · exact .inr ⟨τ, e1, e.tok ht, hl⟩
theorem Pure.Rh {f : Nat} {args : List AV} {x : AV} (hargs : bH args = true) (hx : closed x = true)
 (h : ∀ R : cm -> St -> Prop, (∀ v ad, resolve 5 ad v = x -> R (.ret v) ad) -> ae K f args (bj ⟨.e, 0⟩) R) : Pure K f args x :=
 Pure.uA uN hargs hx 5 (h _ fun v ad e => ⟨v, rfl, e⟩)
theorem CX (n : Nat) (U : St) (l : List Tk) : (fF l).map (resolve (n + 1) U) = fF l := by
 induction l with
 | nil => rfl
 | cons t l ih =>
   show ((lk t ++ fF l).map (resolve (n + 1) U)) = lk t ++ fF l
   rw [List.map_append, ih]; rfl
theorem D8 (l : List Tk) : bH (fF l) = true := by
 induction l with
 | nil => rfl
 | cons t l ih => show bH (lk t ++ fF l) = true; simp [lk, bH, closed, ih]
theorem Cw (l : List Tk) : closed (sf l) = true := by
 unfold sf; split
 · rfl
 · exact D8 l
theorem BR {U ad : St} {v : AV} {l : List Tk} (n : Nat) (h : Grow U v 51 3 l.length (fF l)) (h0 : l = [] -> v = .aq) : resolve (n + 2) ad v = sf l := by
 unfold sf
 split
 · rename_i e; rw [h0 e]; rfl
 · rename_i e
   rcases h with ⟨h1, _, _⟩ | ⟨τ, rfl, _, _⟩
   · exact absurd (tN.1 h1) e
   · show AV.vec l.length .gq ((fF l).map (resolve (n + 1) ad)) = _
     rw [CX]
def ub : Ac -> AV
 | .ok l => .aL [sf l, .int .i64 0, .int .i64 0]
 | .bad p e => .aL [.aq, .int .i64 p, .int .i64 e]
theorem cF.loop {U ad : St} {b : Nat} {L : eg} (h : cF U ad) (k : U.loop b = some L) : ad.loop b = some L := by
 cases e : U.live b with
 | none => simp [St.loop, e] at k
 | some x => rw [eE ((h b x e).trans e.symm)]; exact k
theorem te {U ad : St} {v : AV} {e sz n : Nat} {l : List AV} (g : Grow U v e sz n l) (e1 : ∀ b x, (∀ n l, v ≠ .vec n (.own b) l) -> U.live b = some x -> ad.live b = some x) :
 (∀ {b : Nat} {x : List AV}, U.box b = some x -> ad.box b = some x) /\ (∀ {b : Nat} {L : eg}, U.loop b = some L -> ad.loop b = some L) := by
 refine ⟨fun {b x} h => ?_, fun {b L} h => ?_⟩
 · cases e : U.live b with
   | none => exact absurd e (dy h)
   | some y =>
     have := e1 b y (fun n' l' hv => by
      rcases g with ⟨_, _, g⟩ | ⟨τ, g, ht, _⟩
      · rw [g] at hv; cases hv
      · rw [g] at hv; cases hv; exact eh h ht rfl) e
     rw [eU (this.trans e.symm)]; exact h
 · cases e : U.live b with
   | none => simp [St.loop, e] at h
   | some y =>
     have := e1 b y (fun n' l' hv => by
      rcases g with ⟨_, _, g⟩ | ⟨τ, g, ht, _⟩
      · rw [g] at hv; cases hv
      · rw [g] at hv; cases hv; exact qd ht h rfl) e
     rw [eE (this.trans e.symm)]; exact h
theorem RR {U : St} {b2 b3 b4 : Nat} {lv : AV} {p e : Int} {K' : AV -> St -> Prop} {Kp : AV -> St -> Prop} (h2 : ∃ x, U.box b2 = some [x]) (h3 : ∃ x, U.box b3 = some [x]) (h4 : ∃ x, U.box b4 = some [x]) (DB : b2 ≠ b3) (DC : b2 ≠ b4) (Bz : b3 ≠ b4) (hl : lv.cr = true /\ au lv = [lv])
 (h : ∀ lK, lK.box b2 = some [lv] -> lK.box b3 = some [.int .i64 p] -> lK.box b4 = some [.int .i64 e] -> (∀ b, b ≠ b2 -> b ≠ b3 -> b ≠ b4 -> lK.live b = U.live b) -> K' (.aL []) lK) :
 (aM (some (false, 1)) (.box b2 0) lv U).wp K U (fun _ U => (aM (some (false, 1)) (.box b3 0) (.int .i64 p) U).wp K U (fun _ U => (aM (some (false, 1)) (.box b4 0) (.int .i64 e) U).wp K U K' Kp) Kp) Kp := by
 obtain ⟨x2, h2⟩ := h2
 obtain ⟨x3, h3⟩ := h3
 obtain ⟨x4, h4⟩ := h4
 rw [dh h2]
 refine ⟨⟨hl.1, by rw [hl.2]; rfl, by simp⟩, ?_⟩
 rw [dh (show (U.set b2 _).box b3 = some [x3] by rw [aP DB.symm]; exact h3)]
 refine ⟨⟨rfl, rfl, by simp⟩, ?_⟩
 rw [dh (show ((U.set b2 _).set b3 _).box b4 = some [x4] by rw [aP Bz.symm, aP DC.symm]; exact h4)]
 refine ⟨⟨rfl, rfl, by simp⟩, h _ ?_ ?_ ?_ fun b m2 m3 m4 => ?_⟩
 · rw [aP DC, aP DB, aZ, hl.2]; rfl
 · rw [aP Bz, aZ]; rfl
 · rw [aZ]; rfl
 · rw [dM, if_neg m4, dM, if_neg m3, dM, if_neg m2]
theorem C1 (s : aW) (hs : s.length <= 3000) : Pure K 33 [.str s] (ub (mv s)) := by
 refine Pure.Rh rfl (by cases mv s with | ok l => simp [ub, closed, bH, Cw] | bad p e => rfl) fun R hR => ?_
 refine Li ?_
 unfold MV
 rw [eH rfl]
 intro b1 fq
 rw [dv]
 intro b2 gK
 rw [dv]
 intro b3 il
 rw [dv]
 intro b4 nv
 have ZU : b1 ≠ b2 := gK.ca aN
 have g1 := aN (U := bj ⟨.e, 0⟩) (b := b1) (l := au (.str s))
 generalize KE : (bj _).new b1 _ = bM at *
 have Uv := (bz gK (x := .box [.aq])).bA g1
 have g2 := aN (U := bM) (b := b2) (l := [.aq])
 generalize KF : bM.new b2 _ = bN at *
 have P2 := (bz il (x := .box [.int .i64 0])).bA Uv
 have P3 := (bz il (x := .box [.int .i64 0])).bA g2
 have g3 := aN (U := bN) (b := b3) (l := [.int .i64 0])
 have DB : b2 ≠ b3 := il.ca g2
 generalize Wl : bN.new b3 _ = cC at *
 have k1 := (bz nv (x := .box [.int .i64 0])).bA P2
 have k2 := (bz nv (x := .box [.int .i64 0])).bA P3
 have k3 := (bz nv (x := .box [.int .i64 0])).bA g3
 have k4 := aN (U := cC) (b := b4) (l := [.int .i64 0])
 have DC : b2 ≠ b4 := nv.ca P3
 have Bz : b3 ≠ b4 := nv.ca g3
 generalize Bf : cC.new b4 _ = cU at *
 clear KE KF Wl Bf g1 Uv P2 g2 P3 g3 fq gK il nv
 replace k1 : cU.box b1 = some [.str s] := k1
 have fin : ∀ (ad : St) (lv : AV) (p e : Int), ad.box b2 = some [lv] -> ad.box b3 = some [.int .i64 p] -> ad.box b4 = some [.int .i64 e] -> (∀ lK, resolve 5 lK (.aL [lv, .int .i64 p, .int .i64 e]) = ub (mv s)) ->
  bI (some (false, 1)) (.box b2 0) ad fun r0 => bI (some (false, 1)) (.box b3 0) ad fun r1 => bI (some (false, 1)) (.box b4 0) ad fun r2 => aj R (.aL [r0, r1, r2]) ad := by
  intro ad lv p e m2 m3 m4 hres
  rw [BO m2 (dC), BO m3 (dC), BO m4 (dC)]
  exact aj.mk (hR _ _ (hres _))
 simp only [eK k1, yM, List.drop, bD]
 refine (J3 s).go ?_
 simp only [bP, List.drop, bD, cL, ag]
 have fZ : mv s = if (pT s).2 ≠ 0 then .bad (pT s).1 (pT s).2 else jH s.length s 0 [] := rfl
 by_cases he : (pT s).2 = 0
 · simp only [he, cV, cu, aX]
   rw [if_neg (by simp [he])] at fZ
   rw [dv]
   intro b7 pk
   have YX := (pk.ca k1).symm
   have YY := (pk.ca k2).symm
   have YZ := (pk.ca k3).symm
   have Y0 := (pk.ca k4).symm
   have e5 := bz pk (x := .box [.aq])
   have m7 := aN (U := cU) (b := b7) (l := [.aq])
   generalize Wm : cU.new b7 _ = dw at *
   rw [eK (e5.bA k1), dC, bD]
   refine Lr ?_
   unfold M7
   rw [eH rfl]
   intro bs Gw
   have Y3 := Gw.ca m7
   have e6 := bz Gw (x := .box (au (.str s)))
   have ms := aN (U := dw) (b := bs) (l := au (.str s))
   generalize Wn : dw.new bs _ = nD at *
   rw [eH rfl]
   intro bd Qf
   have Y2 := Qf.ca (e6.bA m7)
   have e7 := bz Qf (x := .box (au (.func (.func 75) [] [.box b7 0])))
   have md := aN (U := nD) (b := bd) (l := au (.func (.func 75) [] [.box b7 0]))
   generalize Wo : nD.new bd _ = l8 at *
   refine aj.mk ?_
   refine ⟨by kernel_rfl, fun o L ho Gt Qa Y => ?_⟩
   have Ge := e5.trans (e6.trans e7)
   have T7 : TI l8 b1 b2 b3 b4 b7 bs bd s [] := ⟨Ge.bA k1, ⟨_, Ge.bA k2⟩, ⟨_, Ge.bA k3⟩, ⟨_, Ge.bA k4⟩, ⟨_, (e6.trans e7).bA m7, .inl ⟨rfl, rfl, rfl⟩, fun _ => rfl⟩, e7.bA ms, md⟩
   have T8 := T7.uM (bz ho (x := .loop L))
   have L8 := uX (U := l8) (b := o) (L := L)
   generalize Wp : l8.new o _ = zB at *
   clear Wm Wn Wo Wp T7 Ge e5 e6 e7 m7 ms md ho Qf Gw pk k1 k2 k3 k4
   refine H6 ?_
   unfold H5
   refine ⟨fun m v0 v1 v2 v4 ad => ∃ f p l, m = s.length - p /\ v0 = .nB o /\ v1 = .box bs 0 /\ v2 = .box bd 0 /\ v4 = .int .i64 (p : Nat) /\ p <= s.length /\ s.length - p <= f /\ l.length <= 900 /\ jH f s p l = mv s /\ TI ad b1 b2 b3 b4 b7 bs bd s l /\ ∃ L1, ad.loop o = some L1 /\ L1.st .ready none = L /\ L1.state = .ready /\ L1.dN = none,
    ⟨_, s.length, 0, [], rfl, rfl, rfl, rfl, rfl, by omega, by omega, by simp, fZ.symm, T8, L, L8, by cases L; simp_all [eg.st], Gt, Qa⟩, ?_⟩
   clear T8 L8 fZ he
   rintro m v0 v1 v2 v4 nT ⟨f, p, l, rfl, rfl, rfl, rfl, rfl, hp, hf, QD, fZ, T, L1, nu, et, A7, yX⟩
   rw [eK T.hs, dC, bD]
   simp only [kr, ag, bO, br]
   refine ⟨fun aH => ?_, fun iX => ?_⟩
   · have aH : p < s.length := by omega
     have wF : s.drop p = s[p] :: s.drop (p + 1) := fT aH
     cases f with
     | zero => omega
     | succ f =>
     simp only [jH] at fZ
     rw [wF] at fZ
     simp only at fZ
     rw [eK T.hs, dC, bD, xG]
     refine ⟨by omega, ?_⟩
     rw [eF, getD_at aH]
     intro jj uT
     have Xg : ((s[p].toNat : Int) = 32) = (s[p].toNat = 32) := by simp; omega
     have Xf : ((s[p].toNat : Int) = 10) = (s[p].toNat = 10) := by simp; omega
     have VI : ((s[p].toNat : Int) = 126) = (s[p].toNat = 126) := by simp; omega
     have blank : s[p].toNat = 32 \/ s[p].toNat = 10 -> jj (.nB o) (.box bs 0) (.box bd 0) (.int .i64 (p : Nat)) (.int .u8 s[p].toNat) (.bool true) nT := fun h => by
      refine uT _ _ _ _ _ _ _ ?_
      rw [if_pos h] at fZ
      simp only [bm, cW]
      exact ⟨bh (by omega) (by omega), _, by omega, f, p + 1, l, rfl, rfl, rfl, rfl, by simp, by omega, by omega, QD, fZ, T, L1, nu, et, A7, yX⟩
     have other : ¬ (s[p].toNat = 32 \/ s[p].toNat = 10) -> jj (.nB o) (.box bs 0) (.box bd 0) (.int .i64 (p : Nat)) (.int .u8 s[p].toNat) (.bool false) nT := fun h => by
      refine uT _ _ _ _ _ _ _ ?_
      rw [if_neg h] at fZ
      simp only [aX, bf, ag, br, VI]
      have after : ∀ {lK : St} {L2 : eg}, L2 = { L1 with state := .ready, dN := none } -> L2.st .ready none = L /\ L2.state = .ready /\ L2.dN = none := fun h => by
       subst h; exact ⟨by rw [<- et]; rfl, rfl, rfl⟩
      refine ⟨fun Er => ?_, fun Er => ?_⟩
      · rw [if_pos Er] at fZ
        rw [eK T.hs, dC, bD]
        have hdn : ((s.take s.length).drop p) = s[p] :: s.drop (p + 1) := by rw [tO, wF]
        simp only [nx, ja, jT, wp_cond, ag, eF, hdn]
        refine ⟨⟨by omega, by omega, by omega⟩, ?_⟩
        obtain ⟨y, z, VV⟩ := J4 (s[p] :: s.drop (p + 1)) (by rw [<- wF]; simp; omega)
        refine VV.go ?_
        have hlen : ((s[p] :: s.drop (p + 1)).takeWhile fun c => c.toNat ≠ 10).length <= s.length - p := by
         rw [<- wF]; exact Nat.le_trans (List.takeWhile_prefix _).length_le (by simp)
        have bX : 1 <= ((s[p] :: s.drop (p + 1)).takeWhile fun c => c.toNat ≠ 10).length /\ ((s[p] :: s.drop (p + 1)).takeWhile fun c => c.toNat ≠ 10) ≠ [] := by
         rw [rV]; simp [Er]
        generalize ((s[p] :: s.drop (p + 1)).takeWhile fun c => c.toNat ≠ 10) = nt at *
        simp only [bP, List.drop, bD]
        simp only [eT, wa]
        refine Y _ _ _ L1 rfl nu et ?_
        refine ⟨L1, nu, A7, ?_⟩
        have Yi : ¬ nt = w_ := bX.2
        simp only [pS, ag, Yi, db, dJ, bm]
        refine ⟨_, eV, ?_⟩
        simp only [bB, dm, ag, cu, aX, kr, cW]
        refine ⟨bh (by omega) (by omega), _, ?_, f, p + nt.length, l, rfl, rfl, rfl, rfl, by simp, by omega, by omega, QD, fZ, (T.mU nu).mU eV, _, eV, ?_⟩
        · omega
        · exact ⟨by rw [<- et]; rfl, rfl, rfl⟩
      · rw [if_neg Er] at fZ
        simp only [eT, wa]
        refine Y _ _ _ L1 rfl nu et ?_
        refine ⟨L1, nu, A7, ?_⟩
        have T2 := T.mU (L' := { L1 with state := .busy }) nu
        have L2 : (nT.set o (.loop { L1 with state := .busy })).loop o = some { L1 with state := .busy } := eV
        generalize TM : nT.set o (.loop { L1 with state := .busy }) = so at *
        simp only [pS, ag, cV, cu, aX]
        rw [eK T2.h1, dC, bD]
        have hdn : ((s.take s.length).drop p) = s[p] :: s.drop (p + 1) := by rw [tO, wF]
        simp only [nx, ja, jT, wp_cond, ag, eF, hdn]
        refine ⟨⟨by omega, by omega, by omega⟩, ?_⟩
        refine (Eh (s[p] :: s.drop (p + 1)) (by rw [<- wF]; simp; omega)).go ?_
        cases pr : gN (s[p] :: s.drop (p + 1)) with
        | mk e kt =>
        obtain ⟨k, tx⟩ := kt
        rw [pr] at fZ
        simp only at fZ
        simp only [Fy, bP, List.drop, bD]
        rw [dv]
        intro fW pW
        have g11 : (so.new fW (.box [AV.int .u8 0, AV.str [], AV.int .i64 0])).box fW = some [AV.int .u8 0, AV.str [], AV.int .i64 0] := aN
        rw [dh g11]
        refine ⟨⟨rfl, rfl, by simp⟩, ?_⟩
        have OJ := ((cF.refl so).new pW (x := .box [AV.int .u8 0, AV.str [], AV.int .i64 0])).set (x := .box (aB [AV.int .u8 0, AV.str [], AV.int .i64 0] 0 (au (.agg [.int .u8 (k : Nat), .str tx, .int .i64 0])))) pW.1
        have m11 : ((so.new fW (.box [AV.int .u8 0, AV.str [], AV.int .i64 0])).set fW (.box (aB [AV.int .u8 0, AV.str [], AV.int .i64 0] 0 (au (.agg [.int .u8 (k : Nat), .str tx, .int .i64 0]))))).box fW = some [.int .u8 (k : Nat), .str tx, .int .i64 0] := by rw [aZ]; rfl
        have n117 : b7 ≠ fW := pW.ca (T2.h7.choose_spec.1)
        generalize (so.new fW (.box [AV.int .u8 0, AV.str [], AV.int .i64 0])).set fW (.box (aB [AV.int .u8 0, AV.str [], AV.int .i64 0] 0 (au (.agg [.int .u8 (k : Nat), .str tx, .int .i64 0])))) = sr at *
        have T3 := T2.uM OJ
        have L3 := OJ.loop L2
        have Ts : ∀ (b : Nat) (x : List AV), so.box b = some x -> b ≠ fW := fun b x h => pW.ca h
        clear OJ g11 pW TM
        intro j hj
        obtain ⟨v, q1, q2, q3⟩ := T3.h7
        have cont : ∀ e' : Int, (e' ≠ 0 -> mv s = .bad p e') -> (e' = 0 -> l.length < 900 /\ 0 < tx.length /\ jH f s (p + tx.length) (l ++ [⟨k, tx, p⟩]) = mv s) -> (e' = 0 -> e = 0) -> j (.box b2 0) (.box b3 0) (.box b4 0) (.box b7 0) (.int .i64 (p : Nat)) (.box fW 0) (.int .i64 e') sr := by
         intro e' VS Tz Qq
         refine hj _ _ _ _ _ _ _ _ ?_
         by_cases iq : e' = 0
         · obtain ⟨Zy, jM, QG⟩ := Tz iq
           simp only [iq, cL, ag, cV, cu, aX, aU, ck]
           rw [dh m11]
           refine ⟨⟨rfl, rfl, by simp⟩, ?_⟩
           have kp : ∀ {b : Nat} {x : List AV}, b ≠ fW -> sr.box b = some x -> (sr.set fW (.box (aB [.int .u8 (k : Nat), .str tx, .int .i64 0] 2 (au (.int .i64 (p : Nat)))))).box b = some x := fun h1 h2 => by rw [aP h1]; exact h2
           rw [eK (kp n117 q1), dC, bD]
           rw [pO aZ]
           refine ⟨by simp [aB], ?_⟩
           have Rm : Grow (sr.set fW (.box (aB [.int .u8 (k : Nat), .str tx, .int .i64 0] 2 (au (.int .i64 (p : Nat)))))) v 51 3 l.length (fF l) := by
            rcases q2 with q2 | ⟨τ, r1, r2, r3⟩
            · exact .inl q2
            · exact .inr ⟨τ, r1, by rw [gn (eh m11 r2).symm]; exact r2, r3⟩
           have s0 : ∀ {b : Nat} {x : List AV}, sr.box b = some x -> b ≠ fW -> (sr.set fW (.box (aB [.int .u8 (k : Nat), .str tx, .int .i64 0] 2 (au (.int .i64 (p : Nat)))))).box b = some x := fun h1 h2 => kp h2 h1
           have Vk : (sr.set fW (.box (aB [.int .u8 (k : Nat), .str tx, .int .i64 0] 2 (au (.int .i64 (p : Nat)))))).loop o = some { L1 with state := .busy } := by
            rw [eE]; exact L3
            rw [dM, if_neg (bE m11 L3).symm]
           have AJ : (List.take 3 (List.drop 0 (aB [.int .u8 (k : Nat), .str tx, .int .i64 0] 2 (au (.int .i64 (p : Nat)))))) = lk ⟨k, tx, p⟩ := by simp [aB, lk]
           rw [AJ]
           generalize sr.set fW (.box (aB [.int .u8 (k : Nat), .str tx, .int .i64 0] 2 (au (.int .i64 (p : Nat))))) = ZD at *
           rw [fG]
           refine ⟨by omega, ?_⟩
           rw [ee (o := 0) (s := 3) rfl]
           refine ⟨⟨rfl, rfl, by simp [bp]⟩, ?_⟩
           rw [gw]
           refine ⟨rfl, ?_⟩
           have MP := s0 q1 n117
           refine FG (m := 1) (l2 := lk ⟨k, tx, p⟩) Rm rfl rfl (by omega) (by omega) (fun h => q3 (tN.1 h)) fun yH v' g1 g2 g3 => ?_
           obtain ⟨kb, kl⟩ := te Rm g2
           have pt : v'.cr = true /\ au v' = [v'] := by
            rcases g1 with ⟨_, _, rfl⟩ | ⟨τ, rfl, _, _⟩ <;> exact ⟨rfl, rfl⟩
           rw [dh (kb MP)]
           refine ⟨⟨pt.1, by rw [pt.2]; rfl, by simp⟩, ?_⟩
           have kk : ∀ {b : Nat} {x : List AV}, b7 ≠ b -> yH.box b = some x -> (yH.set b7 (.box (aB [v] 0 (au v')))).box b = some x := fun h1 h2 => by rw [aP h1.symm]; exact h2
           have lo : (yH.set b7 (.box (aB [v] 0 (au v')))).loop o = some { L1 with state := .busy } := by
            rw [eE]; exact kl Vk
            rw [dM, if_neg (bE (kb MP) (kl Vk)).symm]
           have xO : ∀ {b : Nat} {x : List AV}, so.box b = some x -> b ≠ fW := fun h => Ts _ _ h
           have T5 : TI (yH.set b7 (.box (aB [v] 0 (au v')))) b1 b2 b3 b4 b7 bs bd s (l ++ [⟨k, tx, p⟩]) := by
            refine ⟨kk YX (kb (s0 T3.h1 (xO T2.h1))), ?_, ?_, ?_, ⟨v', by rw [aZ, pt.2]; rfl, ?_, fun h => by simp at h⟩, kk Y3 (kb (s0 T3.hs (xO T2.hs))), kk Y2 (kb (s0 T3.hd (xO T2.hd)))⟩
            · obtain ⟨x, hx⟩ := T2.h2; obtain ⟨y, hy⟩ := T3.h2; exact ⟨y, kk YY (kb (s0 hy (xO hx)))⟩
            · obtain ⟨x, hx⟩ := T2.h3; obtain ⟨y, hy⟩ := T3.h3; exact ⟨y, kk YZ (kb (s0 hy (xO hx)))⟩
            · obtain ⟨x, hx⟩ := T2.h4; obtain ⟨y, hy⟩ := T3.h4; exact ⟨y, kk Y0 (kb (s0 hy (xO hx)))⟩
            · have el : (l ++ [(⟨k, tx, p⟩ : Tk)]).length = l.length + 1 := by simp
              rw [el, vb]
              rcases g1 with ⟨h0, _⟩ | ⟨τ, r1, r2, r3⟩
              · omega
              · exact .inr ⟨τ, r1, by rw [gn (eh (kb MP) r2).symm]; exact r2, r3⟩
           have TB : ∃ c, v' = .vec (l.length + 1) c (fF (l ++ [⟨k, tx, p⟩])) := by
            rw [vb]
            rcases g1 with ⟨h0, _⟩ | ⟨τ, r1, _, _⟩
            · omega
            · exact ⟨_, r1⟩
           have UB : (yH.set b7 (.box (aB [v] 0 (au v')))).box b7 = some [v'] := by rw [aZ, pt.2]; rfl
           generalize yH.set b7 (.box (aB [v] 0 (au v'))) = W6 at *
           refine ⟨_, lo, ?_⟩
           have T6 := T5.mU (L' := { L1 with state := .ready, dN := none }) lo
           obtain ⟨c, hc⟩ := TB
           subst hc
           have VQ : (W6.set o (.loop { L1 with state := .ready, dN := none })).box b7 = some [.vec (l.length + 1) c (fF (l ++ [⟨k, tx, p⟩]))] := by rw [aP (bE UB lo)]; exact UB
           simp only [bB, dm, ag, cu, aX]
           rw [eK T6.hd, dC, bD]
           simp only [show cX K.P 75 = true by kernel_rfl, if_true, gI, iN, jn]
           refine NN VQ rfl QD ?_
           simp only [bB, cW]
           have oK : p + tx.length <= s.length := by
            have := (yC (s := s[p] :: s.drop (p + 1)) (k := k) (t := tx) (by rw [pr, Qq iq])).2.length_le
            rw [<- wF] at this
            simp at this
            omega
           refine ⟨bh (by omega) (by omega), _, ?_, f, p + tx.length, l ++ [⟨k, tx, p⟩], rfl, rfl, rfl, rfl, by simp, oK, by omega, by simp; omega, QG, T6, _, eV, by rw [<- et]; rfl, rfl, rfl⟩
           omega
         · simp only [iq, cL, ag, db, dJ, bm]
           refine RR T3.h2 T3.h3 T3.h4 DB DC Bz ⟨rfl, rfl⟩ fun lK m2 m3 m4 mo => ?_
           have ob : ∀ {b : Nat}, (∃ x, sr.box b = some [x]) -> o ≠ b := fun ⟨x, h⟩ => (bE h L3).symm
           have L4 : lK.loop o = some { L1 with state := .busy } := by rw [eE (mo o (ob T3.h2) (ob T3.h3) (ob T3.h4))]; exact L3
           refine ⟨_, L4, ?_⟩
           simp only [bB, dm, ag, dJ, bm]
           refine aj.mk ⟨_, eV, by simp, ?_⟩
           have kp : ∀ {b : Nat} {x : List AV}, o ≠ b -> lK.box b = some x -> ((lK.set o (.loop { L1 with state := .done, dN := some .ret })).del o).box b = some x := fun h1 h2 => by rw [gi h1.symm, aP h1.symm]; exact h2
           refine fin _ _ _ _ (kp (ob T3.h2) m2) (kp (ob T3.h3) m3) (kp (ob T3.h4) m4) fun cC => ?_
           rw [VS iq]; rfl
        have hlen : bZ (some false) v = .val (.int .i64 l.length) := by
         rcases q2 with ⟨h0, _, rfl⟩ | ⟨τ, rfl, _, _⟩
         · rw [h0]; rfl
         · rfl
        simp only [bf, ag, aT, aI]
        by_cases yS : e = 0
        · subst yS
          simp only [cV, fC, bT, nJ q1, dC, eP, j6, hlen, aC, bf, aG, if_true, ag, br]
          rw [if_neg (by simp)] at fZ
          refine ⟨fun VR => ?_, fun VR => ?_⟩
          · rw [if_pos (by omega)] at fZ
            exact cont 5 (fun _ => fZ.symm) (fun h => by omega) (fun h => by omega)
          · rw [if_neg (by omega)] at fZ
            have jM := (yC pr).1.1
            exact cont 0 (fun h => absurd rfl h) (fun _ => ⟨by omega, List.length_pos_iff.2 jM, fZ⟩) (fun _ => rfl)
        · simp only [yS, db, show (false == true) = false from rfl, bS, aG, bl, if_false, ag, aX]
          rw [if_pos yS] at fZ
          exact cont e (fun _ => fZ.symm) (fun h => absurd h yS) (fun h => h)
     simp only [bf, ag, br, Xg, Xf]
     refine ⟨fun h => ?_, fun h => ?_⟩
     · simp only [h, cV]; rw [h] at blank; exact blank (.inl rfl)
     · by_cases lQ : s[p].toNat = 10
       · simp only [lQ, cV]; rw [lQ] at blank; exact blank (.inr rfl)
       · simp only [lQ, db]; exact other (fun h1 => h1.elim h lQ)
   · have XN : s.drop p = [] := List.drop_eq_nil_of_le (by omega)
     have QG : mv s = .ok l := by
      rw [<- fZ]
      cases f with
      | zero => rfl
      | succ f => simp only [jH]; rw [XN]
     refine aj.mk ⟨L1, nu, by rw [A7]; simp, ?_⟩
     rw [yX]
     obtain ⟨v, g1, g2, g3⟩ := T.h7
     have dl : ∀ {b : Nat} {x : List AV}, nT.box b = some x -> (nT.del o).box b = some x := fun h => by rw [gi (bE h nu)]; exact h
     have hv : v.cr = true /\ au v = [v] := by
      rcases g2 with ⟨_, _, rfl⟩ | ⟨τ, rfl, _, _⟩ <;> exact ⟨rfl, rfl⟩
     show (ao (some (false, 1)) (.box b7 0) (nT.del o)).wp K (nT.del o) _ _
     rw [eK (dl g1), dC, bD]
     refine RR (T.h2.imp fun _ h => dl h) (T.h3.imp fun _ h => dl h) (T.h4.imp fun _ h => dl h) DB DC Bz hv fun lK m2 m3 m4 _ => ?_
     refine fin lK _ _ _ m2 m3 m4 fun cC => ?_
     rw [QG]
     show AV.aL [resolve 4 cC v, .int .i64 0, .int .i64 0] = _
     rw [BR 2 g2 g3]
     rfl
 · simp only [he, db, dJ, bm]
   rw [if_pos he] at fZ
   refine RR ⟨_, k2⟩ ⟨_, k3⟩ ⟨_, k4⟩ DB DC Bz ⟨rfl, rfl⟩ fun dw m2 m3 m4 _ => ?_
   exact fin dw _ _ _ m2 m3 m4 fun lK => by rw [fZ]; rfl
end Go.Rip
