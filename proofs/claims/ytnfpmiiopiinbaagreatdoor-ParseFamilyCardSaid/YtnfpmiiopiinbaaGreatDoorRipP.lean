/- Lemmas for the proof: no conditions. -/
import Derived.Test.YtnfpmiiopiinbaaGreatDoorRipZz
import Derived.Test.YtnfpmiiopiinbaaGreatDoorRipN
import Derived.Test.YtnfpmiiopiinbaaGreatDoorRipE
import Derived.Test.YtnfpmiiopiinbaaGreatDoorRipF
set_option linter.unusedVariables false
set_option linter.unusedSimpArgs false
set_option linter.loopingSimpArgs false
namespace Go.Rip
open Go.Proofs Go.RowKit
def cls (c : Int) : Int := if c = 32 \/ c = 10 then 1 else if c < 32 \/ c > 126 then 0 else if 48 <= c /\ c <= 57 then 2 else if 97 <= c /\ c <= 122 then 3 else if 65 <= c /\ c <= 90 then 4 else 5
theorem Cv (c : Int) : Pure K 216 [.int .u8 c] (.int .i64 (cls c)) := by
 intro U R hR
 refine LL ?_
 simp (contextual := true) only [LK, n6, mK, aR, bj, eK, dY, dG, ai, aI, aB, jk, bl, a8, au, ay, fQ, zq, aW, bf, aU, bM, bZ, ite_true, ite_false, beq_true, beq_false, bU, cZ, cL, if_true, if_false, true_and, and_true, not_true, not_false_iff]
 repeat' (first | refine And.intro ?_ ?_ | intro _)
 all_goals (refine aj.eq hR ?_; simp only [cls, AV.int.injEq, true_and])
 all_goals grind
def Dc (l : List Int) (s : Int) : Int := match l.findIdx? (· = s) with | some i => i | none => -1
theorem EF (c : iW) (l : List Int) (s : Int) (hn : l.length <= 100000) : Pure K 246 [.vec l.length c (l.map (.int .i64)), .int .i64 s] (.int .i64 (Dc l s)) := by
 intro U R hR
 refine Mh ?_
 simp only [Mg, oA, ai]
 refine ⟨fun m v0 v1 v7 v8 ae => ∃ i : Nat, m = l.length - i /\ i <= l.length /\ v0 = .vec l.length c (l.map (.int .i64)) /\ v1 = .int .i64 s /\ v7 = .int .i64 l.length /\ v8 = .int .i64 i /\ ae = U /\ ∀ j, j < i -> l[j]? ≠ some s, ⟨l.length, 0, by simp [Fn.app]⟩, ?_⟩
 intro m v0 v1 v7 v8 ae hI
 obtain ⟨i, rfl, hi, rfl, rfl, rfl, rfl, rfl, fF⟩ := hI
 simp only [bj, ai, aW]
 refine ⟨fun aJ => ?_, fun gn => ?_⟩
 · have aJ : i < l.length := by omega
   have hd : (l.map (AV.int .i64)).drop (i * 1) = .int .i64 l[i] :: (l.map (AV.int .i64)).drop (i + 1) := by
    rw [Nat.mul_one, gp (by simpa using aJ)]; simp
   simp only [uF, wp_cond, ai, dC, hd, ri, dm, aR, aW]
   refine ⟨by omega, fun he => ?_, fun cm => ?_⟩
   · refine aj.eq hR ?_
     have : l.findIdx? (· = s) = some i := by
      rw [DI]
      refine ⟨aJ, by simp [he], fun j hj => ?_⟩
      have := fF j hj
      rw [iY (by omega)] at this
      simpa using this
     simp [Dc, this]
   · simp only [js, dp, wp_cond, ai]
     refine ⟨aX (by omega) (by omega), ?_⟩
     refine ⟨l.length - (i + 1), by omega, i + 1, rfl, by omega, rfl, rfl, rfl, by simp, rfl, fun j hj => ?_⟩
     rcases eG j i with h | h
     · exact fF j h
     · have : j = i := by omega
       subst this
       rw [iY aJ]; simpa using fun h => cm h.symm
 · refine aj.eq hR ?_
   have : l.findIdx? (· = s) = none := by
    rw [List.findIdx?_eq_none_iff]
    intro x hx
    obtain ⟨j, hj, rfl⟩ := List.getElem_of_mem hx
    have := fF j (by omega)
    rw [iY hj] at this
    simpa using this
   simp [Dc, this]
theorem ED (l : List Int) (s : Int) : decide (0 <= Dc l s) = decide (s ∈ l) := by
 unfold Dc
 split
 · rename_i j hj
   obtain ⟨h1, h2, _⟩ := DI.1 hj
   have : s ∈ l := by have := of_decide_eq_true h2; exact this ▸ qE h1
   simp [this]
 · rename_i hj
   rw [List.findIdx?_eq_none_iff] at hj
   have : s ∉ l := fun hm => by simpa using hj s hm
   simp [this]
theorem tE (c : Int) (cp : iW) (l : List Int) (hn : l.length <= 100000) : Pure K 151 [.int .u8 c, .vec l.length cp (l.map (.int .i64))] (.bool (decide (cls c ∈ l))) := by
 intro U R hR
 refine KP ?_
 refine (Cv c).go ?_
 refine LJ ?_
 refine (EF cp l (cls c) hn).go ?_
 simp only [dG, ai, ED]
 exact aj.mk (aj.mk hR)
theorem Bg (c : UInt8) : decide (cls c.toNat ∈ [2]) = dS c := by
 unfold cls dS
 rw [lE]
 simp only [ng, cL]
 grind
theorem I0 (c : UInt8) : decide (cls c.toNat ∈ [3]) = iQ c := by
 unfold cls iQ
 rw [lE]
 simp only [ng, cL]
 grind
theorem IX (c : UInt8) : decide (cls c.toNat ∈ [2, 3, 4]) = cK c := by
 unfold cls cK dS iQ wo
 rw [lE]
 simp only [eA, List.not_mem_nil, or_false, cL, iZ]
 grind
theorem IZ (c : UInt8) : (!decide (cls c.toNat ∈ [0])) = nU c := by
 unfold cls nU
 rw [lE]
 simp only [ng, cL, Bool.not_eq_true', decide_eq_false_iff_not]
 grind
theorem EG (c : UInt8) : Pure K 146 [.int .u8 c.toNat] (.bool (nU c)) := by
 intro U R hR
 refine KH ?_
 unfold KG
 rw [fI]
 refine ⟨by omega, ?_⟩
 rw [eR (o := 0) (s := 1) rfl]
 refine ⟨⟨rfl, rfl, by simp [bN]⟩, ?_⟩
 rw [gQ]
 refine ⟨rfl, ?_⟩
 refine (tE c.toNat .full [0] (by simp)).go ?_
 simp only [cJ, ai, IZ]
 exact aj.mk hR
theorem getD_at {s : bg} {i : Nat} (h : i < s.length) : s.getD i 0 = s[i] := by simp [rW, h]
theorem M6 (s : bg) : Pure K 74 [.str s] (.aO [.int .i64 (rH s).1, .int .i64 (rH s).2]) := by
 intro U R hR
 refine OB ?_
 unfold QC
 simp only [gO, ai, dY, aW]
 unfold rH at hR
 refine ⟨fun h => ?_, fun h => ?_⟩
 · rw [if_pos (by omega)] at hR
   exact aj.mk hR
 · rw [if_neg (by omega)] at hR
   refine ⟨fun m v0 v9 v10 ae => ∃ i : Nat, m = s.length - i /\ i <= s.length /\ v0 = .str s /\ v9 = .int .i64 s.length /\ v10 = .int .i64 i /\ ae = U /\ ∀ j (hj : j < s.length), j < i -> nU s[j] = true, ⟨s.length, 0, by simp [Fn.app]⟩, ?_⟩
   rintro m v0 v9 v10 ae ⟨i, rfl, hi, rfl, rfl, rfl, rfl, bq⟩
   simp only [bj, ai, aW]
   refine ⟨fun aJ => ?_, fun gn => ?_⟩
   · have aJ : i < s.length := by omega
     rw [um]
     refine ⟨by omega, ?_⟩
     rw [dC, getD_at aJ]
     refine (EG s[i]).go ?_
     simp only [cJ, ai]
     cases hb : nU s[i] with
     | false =>
       simp only [cZ, bf]
       have : s.findIdx? (fun c => !nU c) = some i := by
        rw [DI]
        exact ⟨aJ, by simp [hb], fun j hj => by simp [bq j (by omega) hj]⟩
       rw [this] at hR
       exact aj.mk hR
     | true =>
       simp only [bU, aU, cn]
       refine ⟨aX (by omega) (by omega), s.length - (i + 1), by omega, i + 1, rfl, by omega, rfl, rfl, by simp, rfl, fun j hj qi => ?_⟩
       rcases eG j i with h | h
       · exact bq j hj h
       · have : j = i := by omega
         subst this; exact hb
   · have : s.findIdx? (fun c => !nU c) = none := by
      rw [List.findIdx?_eq_none_iff]
      intro x hx
      obtain ⟨j, hj, rfl⟩ := List.getElem_of_mem hx
      simp [bq j hj (by omega)]
     rw [this] at hR
     exact aj.mk hR
theorem po {p : UInt8 -> Bool} : ∀ {l : bg}, (∀ x ∈ l, p x = true) -> l.takeWhile p = l
 | [], _ => rfl
 | c :: l, h => by rw [nh, h c (by simp)]; simp [po (l := l) fun x hx => h x (by simp [hx])]
theorem run_pure (s : bg) (hs : s.length <= 100000) : Pure K 149 [.str s] (.int .i64 (s.takeWhile cK).length) := by
 intro U R hR
 refine KM ?_
 unfold KL
 refine ⟨fun m v0 v2 ae => ∃ i : Nat, m = s.length - i /\ i <= s.length /\ v0 = .str s /\ v2 = .int .i64 i /\ ae = U /\ ∀ j (hj : j < s.length), j < i -> cK s[j] = true, ⟨s.length, 0, by simp [Fn.app]⟩, ?_⟩
 rintro m v0 v2 ae ⟨i, rfl, hi, rfl, rfl, rfl, bq⟩
 have rP : (s.take i).takeWhile cK = s.take i := by
  refine po fun x hx => ?_
  obtain ⟨j, hj, rfl⟩ := List.getElem_of_mem hx
  simp only [List.length_take] at hj
  rw [List.getElem_take]
  exact bq j (by omega) (by omega)
 have yX : s.takeWhile cK = s.take i ++ (s.drop i).takeWhile cK := by
  conv => lhs; rw [<- List.take_append_drop i s]
  rw [List.takeWhile_append, rP]
  simp
 simp only [gO, ai, bj, aI, aB]
 by_cases aJ : i < s.length
 · have mi : (i : Int) < s.length := by omega
   simp only [mi, bM, du, bl, au, tV, fQ, dC, getD_at aJ]
   refine ⟨by simp, ?_⟩
   rw [x6]
   refine ⟨by omega, ?_⟩
   rw [vJ (o := 0) (s := 1) rfl]
   refine ⟨⟨rfl, rfl, by simp [bN]⟩, ?_⟩
   rw [vJ (o := 1) (s := 1) rfl]
   refine ⟨⟨rfl, rfl, by simp [bN, aH]⟩, ?_⟩
   rw [vJ (o := 2) (s := 1) rfl]
   refine ⟨⟨rfl, rfl, by simp [bN, aH]⟩, ?_⟩
   rw [Ap]
   refine ⟨rfl, _, tE s[i].toNat .full [2, 3, 4] (by simp), ?_⟩
   rw [IX]
   simp only [ay, if_true, ai]
   have hd : s.drop i = s[i] :: s.drop (i + 1) := gp aJ
   cases hb : cK s[i] with
   | true =>
     simp only [bf, cn]
     refine ⟨aX (by omega) (by omega), s.length - (i + 1), by omega, i + 1, rfl, by omega, rfl, by simp, rfl, fun j hj qi => ?_⟩
     rcases eG j i with h | h
     · exact bq j hj h
     · have : j = i := by omega
       subst this; exact hb
   | false =>
     simp only [aU]
     refine aj.eq hR ?_
     rw [yX, hd, nh, hb]
     simp
     omega
 · have mi : ¬ (i : Int) < s.length := by omega
   simp only [mi, bZ, show (false == true) = false from rfl, a8, ay, bm, if_false, ai, aU]
   refine aj.eq hR ?_
   rw [yX, List.drop_eq_nil_of_le (by omega)]
   simp; omega
end Go.Rip
namespace Go.Rip
open Go.Proofs Go.RowKit
theorem Bu {s : bg} {i : Nat} (h : i < s.length) : gg 0 (s.take (i + 1)) = min (10 * gg 0 (s.take i) + ((s[i].toNat : Int) - 48)) 1000001 := by
 have : s.take (i + 1) = s.take i ++ [s[i]] := by rw [pk, iY h]; rfl
 rw [this]
 unfold gg
 rw [List.foldl_append]
 rfl
theorem ER (s : bg) (hs : s.length <= 100000) : Pure K 152 [.str s] (.int .i64 (iC s)) := by
 intro U R hR
 refine KT ?_
 unfold KS
 simp only [gO, ai]
 refine ⟨fun m v0 v3 v6 v7 ae => ∃ i : Nat, m = s.length - i /\ i <= s.length /\ v0 = .str s /\ v3 = .int .i64 (gg 0 (s.take i)) /\ v6 = .int .i64 s.length /\ v7 = .int .i64 i /\ ae = U /\ (s.take i).all dS = true, ⟨s.length, 0, by simp [Fn.app, gg]⟩, ?_⟩
 rintro m v0 v3 v6 v7 ae ⟨i, rfl, hi, rfl, rfl, rfl, rfl, rfl, bq⟩
 have hb := Al (s.take i) 0 (by omega)
 have uy := pU (s.take i) 0 bq (by omega)
 simp only [bj, ai, aW]
 refine ⟨fun aJ => ?_, fun gn => ?_⟩
 · have aJ : i < s.length := by omega
   rw [um]
   refine ⟨by omega, ?_⟩
   rw [dC, getD_at aJ, fI]
   refine ⟨by omega, ?_⟩
   rw [eR (o := 0) (s := 1) rfl]
   refine ⟨⟨rfl, rfl, by simp [bN]⟩, ?_⟩
   rw [gQ]
   refine ⟨rfl, ?_⟩
   refine (tE s[i].toNat .full [2] (by simp)).go ?_
   rw [Bg]
   simp only [cJ, ai]
   have eY : s.take (i + 1) = s.take i ++ [s[i]] := by rw [pk, iY aJ]; rfl
   cases hd : dS s[i] with
   | false =>
     simp only [cZ, bf]
     refine aj.eq hR ?_
     have : s.all dS = false := by
      rw [Bool.eq_false_iff]
      intro h
      rw [dP] at h
      rw [h s[i] (qE aJ)] at hd
      cases hd
     simp [iC, this]
   | true =>
     have hc := jV.1 hd
     simp only [bU, aU, Ra]
     refine ⟨aX (by omega) (by omega), ?_⟩
     rw [um]
     refine ⟨by omega, ?_⟩
     rw [dC, getD_at aJ]
     have hw : IntKind.u8.wrap ((s[i].toNat : Int) - 48) = (s[i].toNat : Int) - 48 := by
      show ((s[i].toNat : Int) - 48) % 256 = _
      omega
     simp only [dH, Cn, ai, hw, ti, wp_cond, cn, FH]
     refine ⟨aX (by omega) (by omega), aX (by omega) (by omega), aX (by omega) (by omega), ?_⟩
     refine ⟨s.length - (i + 1), by omega, i + 1, rfl, by omega, rfl, ?_, rfl, by simp, rfl, ?_⟩
     · rw [Bu aJ]
       congr 1
       omega
     · rw [eY, List.all_append, bq]; simp [hd]
 · have hi : i = s.length := by omega
   subst hi
   rw [pj] at bq hb uy ⊢
   have hv : Am s = gg 0 s := rfl
   simp only [gO, ai, dY, aI, aB]
   by_cases h1 : 1 < s.length
   · have CK : (1 : Int) < s.length := by omega
     simp only [CK, bM, du, bl, au, tV, fQ, aR, ay, if_true, ai, aW]
     have h0 : s.getD (0 : Int).toNat 0 = s[0] := getD_at (by omega)
     rw [h0]
     have hh : s.head? = some s[0] := by
      cases s with
      | nil => simp at h1
      | cons c r => rfl
     refine ⟨⟨by omega, by omega⟩, fun AT => ?_, fun AT => ⟨fun hm => ?_, fun hm => ?_⟩⟩
     · refine aj.eq hR ?_
       have Ue : s[0].toNat = (48 : UInt8).toNat := by show s[0].toNat = 48; omega
       have : s[0] = 48 := UInt8.toNat_inj.1 Ue
       simp [iC, bq, h1, hh, this]
     · refine aj.eq hR ?_
       have : ¬ s[0] = 48 := fun e => AT (by rw [e]; rfl)
       simp [iC, bq, hh, this, hv, hm]
     · refine aj.eq hR ?_
       have : ¬ s[0] = 48 := fun e => AT (by rw [e]; rfl)
       simp [iC, bq, hh, this, hv, hm]
   · have CK : ¬ (1 : Int) < s.length := by omega
     simp only [CK, bZ, show (false == true) = false from rfl, a8, ay, bm, if_false, ai, aU, aW]
     refine ⟨fun hm => ?_, fun hm => ?_⟩
     · refine aj.eq hR ?_
       simp [iC, bq, h1, hv, hm]
     · refine aj.eq hR ?_
       simp [iC, bq, h1, hv, hm]
theorem sy (s p : bg) : Pure K 213 [.str s, .str p] (.bool (p.isPrefixOf s)) :=
 Pure.xW (vs := [.string ⟨s.toArray⟩, .string ⟨p.toArray⟩]) (v := .bool (p.isPrefixOf s)) (fun g us h => by
  simp only [aD, aw] at h
  obtain ⟨_, _, rfl, rfl, _, _, rfl, rfl, rfl⟩ := h; rfl) (fun g => by simp only [aw]) fun w => Tryz.strings_HasPrefix ⟨s.toArray⟩ ⟨p.toArray⟩ w
theorem ue (s : bg) : (fC.find? fun x => x.isPrefixOf s) = if cP.isPrefixOf s then some cP else if iL.isPrefixOf s then some iL else match s with
 | [] => none
 | c :: _ => if c ∈ dc then some [c] else none := by
 cases s with
 | nil => rfl
 | cons c r =>
   by_cases h1 : cP.isPrefixOf (c :: r) = true
   · simp only [fC, List.find?_cons, h1, if_true]
   · by_cases h2 : iL.isPrefixOf (c :: r) = true
     · simp only [fC, List.find?_cons, h1, h2, if_true, bm, if_false]
     · simp only [fC, List.find?_cons, h1, h2, bm, if_false]
       have e : ∀ x : UInt8, [x].isPrefixOf (c :: r) = (x == c) := fun x => by simp [List.isPrefixOf]
       simp only [show wN = [61] from rfl, show wM = [60] from rfl, show wI = [43] from rfl, show wK = [45] from rfl, show wH = [42] from rfl, show oW = [33] from rfl, show oX = [40] from rfl, show pL = [41] from rfl, show wO = [123] from rfl, show zG = [125] from rfl, show wJ = [44] from rfl, show rC = [59] from rfl, show wL = [58] from rfl, show zF = [46] from rfl, e]
       by_cases hc : c ∈ dc
       · rw [if_pos hc]
         simp only [dc, eA, List.not_mem_nil, or_false] at hc
         rcases hc with rfl | rfl | rfl | rfl | rfl | rfl | rfl | rfl | rfl | rfl | rfl | rfl | rfl | rfl <;> rfl
       · rw [if_neg hc]
         simp only [dc, eA, List.not_mem_nil, or_false, not_or] at hc
         have f : ∀ x : UInt8, ¬ c = x -> (x == c) = false := fun x h => by simp [Ne.symm h]
         simp only [f _ hc.1, f _ hc.2.1, f _ hc.2.2.1, f _ hc.2.2.2.1, f _ hc.2.2.2.2.1, f _ hc.2.2.2.2.2.1, f _ hc.2.2.2.2.2.2.1, f _ hc.2.2.2.2.2.2.2.1, f _ hc.2.2.2.2.2.2.2.2.1, f _ hc.2.2.2.2.2.2.2.2.2.1, f _ hc.2.2.2.2.2.2.2.2.2.2.1, f _ hc.2.2.2.2.2.2.2.2.2.2.2.1, f _ hc.2.2.2.2.2.2.2.2.2.2.2.2.1, f _ hc.2.2.2.2.2.2.2.2.2.2.2.2.2, List.find?_nil]
theorem Dd (l : List UInt8) (c : UInt8) : decide (Lib.indexByte l c < 0) = !decide (c ∈ l) := by
 induction l with
 | nil => simp [Lib.indexByte]
 | cons b l ih =>
   have hg := Lib.indexByte_ge l c
   unfold Lib.indexByte
   by_cases h : b = c
   · subst h; simp
   · have hc : ¬ c = b := fun e => h e.symm
     have h' : (b == c) = false := by simp [h]
     rw [h']
     by_cases hm : c ∈ l
     · simp only [hm, bM, bU, decide_eq_false_iff_not] at ih
       have h2 : (Lib.indexByte l c == -1) = false := by simp; omega
       simp [h2, hm]; omega
     · simp only [hm, bZ, cZ, cL] at ih
       have h2 : (Lib.indexByte l c == -1) = true := by simp; omega
       simp [h2, hm, hc]
def ni (s : bg) : Int × Nat × bg := match fC.find? fun x => x.isPrefixOf s with | some x => (0, 4, x) | none => (4, 0, [])
def HA (p : Int × Nat × bg) : AV := .aO [.agg [.int .u8 p.2.1, .str p.2.2, .int .i64 0], .int .i64 p.1]
theorem Mt (s : bg) (hs : s.length <= 100000) : Pure K 150 [.str s] (HA (ni s)) := by
 refine Pure.of rfl rfl (fun U => rfl) fun R hR => ?_
 refine KO ?_
 unfold KN
 rw [dQ]
 intro b hb
 generalize lg : (br _).new b _ = U
 have dK : U.box b = some [AV.int .u8 0, AV.str [], AV.int .i64 0] := by rw [<- lg]; exact aN
 clear lg hb
 have Pq : ∀ {K' : AV -> St -> Prop} {Kp : AV -> St -> Prop} {z : List AV} {ps : List (Nat × AV)} {U : St}, (c6 none (some z) (some (2, 9, 1)) ps).wp K U K' Kp = (eO (fun i => some (i * 1, 1)) ps z fun z => .val (.agg z)).wp K U K' Kp := rfl
 rw [Pq, eR (o := 0) (s := 1) rfl]
 refine ⟨⟨rfl, rfl, by simp⟩, ?_⟩
 rw [eR (o := 1) (s := 1) rfl]
 refine ⟨⟨rfl, rfl, by simp [aH]⟩, ?_⟩
 rw [Sn]
 have fin : ∀ (k : Nat) (x : bg) (e : Int) (ps : List (Nat × AV)) (ae : St), ae.box b = some [AV.int .u8 0, AV.str [], AV.int .i64 0] -> xJ [(0, 1), (1, 1), (2, 1)] ps [AV.int .u8 0, AV.str [], AV.int .i64 0] = some [.int .u8 k, .str x, .int .i64 0] -> ni s = (e, k, x) ->
  (c6 (some [(0, 1), (1, 1), (2, 1)]) (some [AV.int .u8 0, AV.str [], AV.int .i64 0]) none ps).wp K ae (fun v U => (aQ (some (true, 3)) (.box b 0) v U).wp K U (fun _ U => bF (some (true, 3)) (.box b 0) U fun r0 => aj R (.aO [r0, .int .i64 e]) U) (aa R)) (aa R) := by
  intro k x e ps ae dA h1 h2
  refine oZ _ h1 ?_
  rw [dD dA]
  refine ⟨⟨rfl, rfl, by simp⟩, ?_⟩
  rw [wB bo]
  refine ⟨by simp [aH], ?_⟩
  rw [h2] at hR
  exact aj.eq (hR _) rfl
 refine ⟨fun m v0 v2 v6 v7 ae => ∃ i : Nat, m = 2 - i /\ i <= 2 /\ v0 = .str s /\ v2 = .box b 0 /\ v6 = .agg [.str cP, .str iL] /\ v7 = .int .i64 i /\ ae.box b = some [AV.int .u8 0, AV.str [], AV.int .i64 0] /\ (0 < i -> cP.isPrefixOf s = false) /\ (1 < i -> iL.isPrefixOf s = false),
  ⟨2, 0, rfl, by omega, rfl, rfl, rfl, rfl, dK, by simp, by simp⟩, ?_⟩
 rintro m v0 v2 v6 v7 ae ⟨i, rfl, hi, rfl, rfl, rfl, rfl, dA, yT, hn1⟩
 simp only [bj, ai, aW]
 refine ⟨fun aJ => ?_, fun gn => ?_⟩
 · have aJ : i < 2 := by omega
   obtain rfl | rfl : i = 0 \/ i = 1 := by omega
   · simp only [ey, wp_cond]
     refine ⟨by omega, ?_⟩
     simp only [show ((0 : Nat) : Int).toNat * 1 = 0 from rfl, List.drop, fT, ai]
     refine (sy s cP).go ?_
     cases hp : cP.isPrefixOf s with
     | true =>
       simp only [bf]
       refine fin 4 cP 0 _ ae dA rfl ?_
       simp [ni, ue, hp]
     | false =>
       simp only [aU, cn]
       exact ⟨aX (by omega) (by omega), 1, by omega, 1, rfl, by omega, rfl, rfl, rfl, rfl, dA, fun _ => by first | exact hp | trivial, by simp⟩
   · simp only [ey, wp_cond]
     refine ⟨by omega, ?_⟩
     simp only [show ((1 : Nat) : Int).toNat * 1 = 1 from rfl, List.drop, fT, ai]
     refine (sy s iL).go ?_
     cases hp : iL.isPrefixOf s with
     | true =>
       simp only [bf]
       refine fin 4 iL 0 _ ae dA rfl ?_
       simp [ni, ue, hp, yT (by omega)]
     | false =>
       simp only [aU, cn]
       exact ⟨aX (by omega) (by omega), 0, by omega, 2, rfl, by omega, rfl, rfl, rfl, rfl, dA, fun _ => yT (by omega), fun _ => by first | exact hp | trivial⟩
 · have hi2 : i = 2 := by omega
   subst hi2
   have p0 := yT (by omega)
   have p1 := hn1 (by omega)
   simp only [ic, ai, aI, aB]
   cases s with
   | nil =>
     simp only [show w_ = ([] : List UInt8) from rfl, bM, show (true == false) = false from rfl, a8, ay, if_true, ai, bf]
     exact fin 0 [] 4 _ ae dA rfl rfl
   | cons c r =>
     have cm : ¬ (c :: r = w_) := by simp [show w_ = ([] : List UInt8) from rfl]
     simp only [cm, bZ, du, bl, au, tV, fQ, ay, bm, if_false, ai]
     refine ⟨by simp, _, sJ dc c.toNat, ?_⟩
     simp only [bj, au, ay, bm, if_false, ai]
     have hcc : ((c.toNat : Int).toNat).toUInt8 = c := by simp
     rw [hcc, Dd]
     cases hm : decide (c ∈ dc) with
     | false =>
       have IC : ¬ c ∈ dc := by simpa using hm
       simp only [cZ, bf]
       refine fin 0 [] 4 _ ae dA rfl ?_
       simp [ni, ue, p0, p1, IC]
     | true =>
       have IC : c ∈ dc := by simpa using hm
       simp only [bU, aU, lG, gA, fo, wp_cond, ai]
       refine ⟨⟨by omega, by omega, by simp; omega⟩, ?_⟩
       refine fin 4 [c] 0 _ ae dA rfl ?_
       simp [ni, ue, p0, p1, IC]
end Go.Rip
namespace Go.Rip
open Go.Proofs Go.RowKit
theorem Dq (s : bg) : ∀ l : List bg, kg .s (.str s) (.bool false) false (l.map .str) (l.map fun _ => .bool true) = .val (.bool (decide (s ∈ l)))
 | [] => by simp [kg]
 | x :: l => by
   simp only [dx, kg, fz]
   by_cases h : s = x
   · subst h; simp
   · rw [show (s == x) = false by simp [h]]
     have := Dq s l
     simp only [bm, if_false, this]
     simp [h]
theorem MP : zL = .eL (kf.map .str) (kf.map fun _ => .bool true) := rfl
theorem HJ (s : bg) (U : St) : fx (some (.s, 4)) (some (AV.bool false)) zL (.str s) false U = .val (.bool (decide (s ∈ kf))) := by
 rw [MP]
 simp only [fx, j6, nV]
 exact Dq s kf
theorem Gy (s : bg) (hs : s.length <= 100000) : Pure K 77 [.str s] (HA (fD s)) := by
 refine Pure.of rfl rfl (fun U => rfl) fun R hR => ?_
 refine OE ?_
 unfold QF
 rw [dQ]
 intro b hb
 generalize lg : (br _).new b _ = U
 have dK : U.box b = some [AV.int .u8 0, AV.str [], AV.int .i64 0] := by rw [<- lg]; exact aN
 clear lg hb
 refine (run_pure s hs).go ?_
 have rP : s.take (s.takeWhile cK).length = s.takeWhile cK := by
  have := qB cK (l := s)
  exact (List.prefix_iff_eq_take.1 this).symm
 have hle : (s.takeWhile cK).length <= s.length := (qB cK).length_le
 simp only [lG, gA, fo, wp_cond, ai, dC, rP, show (0 : Int).toNat = 0 from rfl, ej, ic, aW]
 refine ⟨⟨by omega, by omega, by omega⟩, fun h0 => ?_, fun h0 => ?_⟩
 · have h0 : s.takeWhile cK = [] := h0
   refine (Mt s hs).go ?_
   simp only [HA, bK, List.drop, bB]
   rw [dD dK]
   refine ⟨⟨rfl, rfl, by simp⟩, ?_⟩
   rw [wB bo]
   refine ⟨by simp [aH], aj.eq (hR _) ?_⟩
   have : fD s = ni s := by unfold fD ni; rw [h0]; rfl
   rw [this]; rfl
 · cases hw : s.takeWhile cK with
   | nil => exact absurd hw h0
   | cons c r =>
     have hlw : (c :: r).length <= s.length := by rw [<- hw]; exact hle
     have ht : fD s = if dS c then (iC (c :: r), 2, c :: r) else if iQ c = false then (4, 0, []) else if (c :: r) ∈ kf then (0, 3, c :: r) else if 12 < (c :: r).length then (4, 0, []) else (0, 1, c :: r) := by
      unfold fD; rw [hw]
     have fin : ∀ (k : Nat) (x : bg) (e : Int) (zs : List AV) (ae : St), zs = [.int .u8 k, .str x, .int .i64 0] -> ae.box b = some [AV.int .u8 0, AV.str [], AV.int .i64 0] -> fD s = (e, k, x) ->
      (aQ (some (true, 3)) (.box b 0) (.agg zs) ae).wp K ae (fun _ U => bF (some (true, 3)) (.box b 0) U fun r0 => aj R (.aO [r0, .int .i64 e]) U) (aa R) := by
      intro k x e zs ae hz dA h2
      subst hz
      rw [dD dA]
      refine ⟨⟨rfl, rfl, by simp⟩, ?_⟩
      rw [wB bo]
      refine ⟨by simp [aH], ?_⟩
      rw [h2] at hR
      exact aj.eq (hR _) rfl
     have one : ∀ (cl : Int) (K' : AV -> St -> Prop) (ae : St), K' (.bool (decide (cls c.toNat ∈ [cl]))) ae ->
      (ey true none none (.str (c :: r)) (.int .i64 0)).wp K ae (fun bV U => (aM (some (178, 1)) (some [AV.int .i64 0]) 1 false [(0, (AV.int .i64 cl))]).wp K U (fun cw U => af K 151 [bV, cw] U (ar K' (aa R))) (aa R)) (aa R) := by
      intro cl K' ae h
      rw [um]
      refine ⟨⟨by omega, by simp⟩, ?_⟩
      rw [fI]
      refine ⟨by omega, ?_⟩
      rw [eR (o := 0) (s := 1) rfl]
      refine ⟨⟨rfl, rfl, by simp [bN]⟩, ?_⟩
      rw [gQ]
      refine ⟨rfl, ?_⟩
      exact (tE c.toNat .full [cl] (by simp)).go h
     refine one 2 _ _ ?_
     rw [Bg]
     cases hd : dS c with
     | true =>
       simp only [bf]
       refine oZ [.int .u8 2, .str (c :: r), .int .i64 0] rfl ?_
       refine (ER (c :: r) (by omega)).go ?_
       exact fin 2 (c :: r) _ _ _ rfl dK (by rw [ht, if_pos hd])
     | false =>
       simp only [aU]
       refine one 3 _ _ ?_
       rw [I0]
       simp only [cJ, ai]
       have pv : ¬ (dS c = true) := by rw [hd]; simp
       cases kD : iQ c with
       | false =>
         simp only [cZ, bf]
         refine oZ [.int .u8 0, .str [], .int .i64 0] rfl ?_
         exact fin 0 [] _ _ _ rfl dK (by rw [ht, if_neg pv, if_pos kD])
       | true =>
         have dL : ¬ (iQ c = false) := by rw [kD]; simp
         simp only [bU, aU]
         refine zN.go ?_
         simp only [HJ, ai, aW, gO, dY]
         refine ⟨fun hk => ?_, fun hk => ⟨fun hl => ?_, fun hl => ?_⟩⟩
         · refine oZ [.int .u8 3, .str (c :: r), .int .i64 0] rfl ?_
           exact fin 3 (c :: r) _ _ _ rfl dK (by rw [ht, if_neg pv, if_neg dL, if_pos hk])
         · refine oZ [.int .u8 0, .str [], .int .i64 0] rfl ?_
           exact fin 0 [] _ _ _ rfl dK (by rw [ht, if_neg pv, if_neg dL, if_neg hk, if_pos (by omega)])
         · refine oZ [.int .u8 1, .str (c :: r), .int .i64 0] rfl ?_
           exact fin 1 (c :: r) _ _ _ rfl dK (by rw [ht, if_neg pv, if_neg dL, if_neg hk, if_neg (by omega)])
end Go.Rip
namespace Go.Rip
open Go.Proofs Go.RowKit
theorem zw (u : bg) : (Lib.indexByte u 10 = -1 /\ u.takeWhile (fun c => c.toNat ≠ 10) = u) \/ ∃ k : Nat, Lib.indexByte u 10 = k /\ k < u.length /\ u.takeWhile (fun c => c.toNat ≠ 10) = u.take k := by
 have nA : ∀ c : UInt8, c.toNat = 10 ↔ c = 10 := fun c => ⟨fun h => UInt8.toNat_inj.1 h, fun h => by rw [h]; rfl⟩
 induction u with
 | nil => left; exact ⟨rfl, rfl⟩
 | cons b u ih =>
   unfold Lib.indexByte
   by_cases hb : b = 10
   · right
     refine ⟨0, by simp [hb], by simp, ?_⟩
     rw [nh]
     simp [(nA b).2 hb]
   · have dA : (b == 10) = false := by simp [hb]
     have hn : (decide (b.toNat ≠ 10)) = true := by simp [nA, hb]
     rw [nh, hn]
     rcases ih with ⟨h1, h2⟩ | ⟨k, h1, h2, h3⟩
     · left; rw [h1, h2]; simp [dA]
     · right
       refine ⟨k + 1, ?_, by simp; omega, ?_⟩
       · rw [h1, dA]
         have : ((k : Int) == -1) = false := by simp
         simp [this]
       · simp only [if_true, List.take_succ_cons, h3]
theorem M8 (u : bg) (hu : u.length <= 100000) : ∃ y z, Pure K 148 [.str u, .str zE] (.aO [.str (u.takeWhile fun c => c.toNat ≠ 10), y, z]) := by
 have go : ∀ x y z, Pure K 212 [.str u, .str zE] (.aO [x, y, z]) -> Pure K 148 [.str u, .str zE] (.aO [x, y, z]) := fun x y z h U R hR => by
  refine KK ?_
  refine h.go ?_
  simp only [bK, List.drop, bB]
  exact aj.mk hR
 have hi := sK u 10
 rcases zw u with ⟨h1, h2⟩ | ⟨k, h1, h2, h3⟩
 · refine ⟨_, _, go _ (.str w_) (.bool false) fun U R hR => ?_⟩
   refine BC ?_
   refine hi.go ?_
   rw [h1]
   simp only [dG, ai, show decide ((0 : Int) <= -1) = false from rfl, aU]
   rw [h2] at hR
   exact aj.mk hR
 · refine ⟨_, _, go _ (.str (u.drop (k + 1))) (.bool true) fun U R hR => ?_⟩
   refine BC ?_
   refine hi.go ?_
   rw [h1]
   have h0 : decide ((0 : Int) <= (k : Nat)) = true := by simp
   simp only [dG, ai, h0, bf, lG, gA, fo, gD, au, gO, tU, show (zE : List UInt8).length = 1 from rfl, dC]
   refine ⟨⟨by omega, by omega, by omega⟩, aX (by omega) (by omega), ⟨by omega, by omega, by omega⟩, ?_⟩
   rw [h3] at hR
   refine aj.eq hR ?_
   have e1 : ((k : Int) + ((1 : Nat) : Int)).toNat = k + 1 := by omega
   simp [e1]
theorem Rq {U : St} {R : cB -> St -> Prop} {b n : Nat} {c : iW} {l : List Tk} {t : Tk} {a : AV} (hb : U.box b = some [.vec n c (gx (l ++ [t]))]) (hn : n = l.length + 1) (hl : l.length <= 900) (h : R (.ret (.int .i64 t.s.length)) U) : af K 75 [a, .box b 0] U R := by
 refine OC ?_
 subst hn
 unfold QD
 simp only [fh hb, List.drop, bB, oA, ai, Rc]
 refine ⟨aX (by omega) (by omega), ?_⟩
 rw [AG]
 refine ⟨by omega, ?_⟩
 have e : (((l.length + 1 : Nat) : Int) - 1).toNat = l.length := by omega
 rw [e]
 obtain ⟨r, hr⟩ := Ay (L := l ++ [t]) (i := l.length) (t := t) (by simp)
 rw [hr]
 simp only [cQ, ai, mL, jb, List.drop, og, bB, gO]
 exact aj.mk h
def uh (l : List Tk) : AV := if l = [] then .ax else .vec l.length .hC (gx l)
theorem xz (l l' : List Tk) : gx (l ++ l') = gx l ++ gx l' := by simp [gx]
structure TI (U : St) (b1 b2 b3 b4 b7 bs bd : Nat) (s : bg) (l : List Tk) : Prop where
 h1 : U.box b1 = some [.str s]
 h2 : ∃ x, U.box b2 = some [x]
 h3 : ∃ x, U.box b3 = some [x]
 h4 : ∃ x, U.box b4 = some [x]
 h7 : ∃ v, U.box b7 = some [v] /\ Grow U v 51 3 l.length (gx l) /\ (l = [] -> v = .ax)
 hs : U.box bs = some [.str s]
 hd : U.box bd = some [.func (.func 75) [] [.box b7 0]]
theorem fA {U ae : St} {b : Nat} (h : ae.live b = U.live b) : ae.loop b = U.loop b := by simp [St.loop, h]
theorem fX {U : St} {b : Nat} {L : eZ} : (U.set b (.loop L)).loop b = some L := by simp [St.loop, eM]
theorem xl {U : St} {b : Nat} {L : eZ} : (U.new b (.loop L)).loop b = some L := by simp [St.loop, lA]
theorem bX {U : St} {b b' : Nat} {l : List AV} {L : eZ} (h : U.box b = some l) (k : U.loop b' = some L) : b ≠ b' := by
 rintro rfl
 unfold St.box at h; unfold St.loop at k
 split at k
 · rename_i e; simp [e] at h
 · cases k
theorem r9 {U : St} {b b' : Nat} {l : Tok} {L : eZ} (h : U.tok b = some l) (k : U.loop b' = some L) : b ≠ b' := by
 rintro rfl
 unfold St.tok at h; unfold St.loop at k
 split at k
 · rename_i e; simp [e] at h
 · cases k
theorem TI.oF {U : St} {b1 b2 b3 b4 b7 bs bd o : Nat} {s : bg} {l : List Tk} (T : TI U b1 b2 b3 b4 b7 bs bd s l) {L L' : eZ} (hL : U.loop o = some L) : TI (U.set o (.loop L')) b1 b2 b3 b4 b7 bs bd s l := by
 have k : ∀ {b : Nat} {x : List AV}, U.box b = some x -> (U.set o (.loop L')).box b = some x := fun h => by rw [aY (bX h hL)]; exact h
 obtain ⟨v, g1, g2, g3⟩ := T.h7
 refine ⟨k T.h1, T.h2.imp fun _ h => k h, T.h3.imp fun _ h => k h, T.h4.imp fun _ h => k h, ⟨v, k g1, ?_, g3⟩, k T.hs, k T.hd⟩
 rcases g2 with g2 | ⟨τ, e, ht, hl⟩
 · exact .inl g2
 · exact .inr ⟨τ, e, by rw [ib (r9 ht hL)]; exact ht, hl⟩
theorem TI.o0 {U ae : St} {b1 b2 b3 b4 b7 bs bd : Nat} {s : bg} {l : List Tk} (T : TI U b1 b2 b3 b4 b7 bs bd s l) (e : cH U ae) : TI ae b1 b2 b3 b4 b7 bs bd s l := by
 obtain ⟨v, g1, g2, g3⟩ := T.h7
 refine ⟨e.bL T.h1, T.h2.imp fun _ h => e.bL h, T.h3.imp fun _ h => e.bL h, T.h4.imp fun _ h => e.bL h, ⟨v, e.bL g1, ?_, g3⟩, e.bL T.hs, e.bL T.hd⟩
 rcases g2 with g2 | ⟨τ, e1, ht, hl⟩
 · exact .inl g2
 · exact .inr ⟨τ, e1, e.tok ht, hl⟩
theorem Pure.FQ {f : Nat} {args : List AV} {x : AV} (hargs : bG args = true) (hx : closed x = true)
 (h : ∀ R : cB -> St -> Prop, (∀ v ae, resolve 5 ae v = x -> R (.ret v) ae) -> af K f args (br ⟨.e, 0⟩) R) : Pure K f args x :=
 Pure.wz wV hargs hx 5 (h _ fun v ae e => ⟨v, rfl, e⟩)
theorem EY (n : Nat) (U : St) (l : List Tk) : (gx l).map (resolve (n + 1) U) = gx l := by
 induction l with
 | nil => rfl
 | cons t l ih =>
   show ((mL t ++ gx l).map (resolve (n + 1) U)) = mL t ++ gx l
   rw [List.map_append, ih]; rfl
theorem Gq (l : List Tk) : bG (gx l) = true := by
 induction l with
 | nil => rfl
 | cons t l ih => show bG (mL t ++ gx l) = true; simp [mL, bG, closed, ih]
theorem Es (l : List Tk) : closed (uh l) = true := by
 unfold uh; split
 · rfl
 · exact Gq l
theorem DO {U ae : St} {v : AV} {l : List Tk} (n : Nat) (h : Grow U v 51 3 l.length (gx l)) (h0 : l = [] -> v = .ax) : resolve (n + 2) ae v = uh l := by
 unfold uh
 split
 · rename_i e; rw [h0 e]; rfl
 · rename_i e
   rcases h with ⟨h1, _, _⟩ | ⟨τ, rfl, _, _⟩
   · exact absurd (rX.1 h1) e
   · show AV.vec l.length .hC ((gx l).map (resolve (n + 1) ae)) = _
     rw [EY]
def vX : Cc -> AV
 | .ok l => .aO [uh l, .int .i64 0, .int .i64 0]
 | .bad p e => .aO [.ax, .int .i64 p, .int .i64 e]
theorem cH.loop {U ae : St} {b : Nat} {L : eZ} (h : cH U ae) (k : U.loop b = some L) : ae.loop b = some L := by
 cases e : U.live b with
 | none => simp [St.loop, e] at k
 | some x => rw [fA ((h b x e).trans e.symm)]; exact k
theorem u9 {U ae : St} {v : AV} {e sz n : Nat} {l : List AV} (g : Grow U v e sz n l) (e1 : ∀ b x, (∀ n l, v ≠ .vec n (.own b) l) -> U.live b = some x -> ae.live b = some x) :
 (∀ {b : Nat} {x : List AV}, U.box b = some x -> ae.box b = some x) /\ (∀ {b : Nat} {L : eZ}, U.loop b = some L -> ae.loop b = some L) := by
 refine ⟨fun {b x} h => ?_, fun {b L} h => ?_⟩
 · cases e : U.live b with
   | none => exact absurd e (dR h)
   | some y =>
     have := e1 b y (fun n' l' hv => by
      rcases g with ⟨_, _, g⟩ | ⟨τ, g, ht, _⟩
      · rw [g] at hv; cases hv
      · rw [g] at hv; cases hv; exact fe h ht rfl) e
     rw [fW (this.trans e.symm)]; exact h
 · cases e : U.live b with
   | none => simp [St.loop, e] at h
   | some y =>
     have := e1 b y (fun n' l' hv => by
      rcases g with ⟨_, _, g⟩ | ⟨τ, g, ht, _⟩
      · rw [g] at hv; cases hv
      · rw [g] at hv; cases hv; exact r9 ht h rfl) e
     rw [fA (this.trans e.symm)]; exact h
theorem We {U : St} {b2 b3 b4 : Nat} {lv : AV} {p e : Int} {K' : AV -> St -> Prop} {Kp : AV -> St -> Prop} (h2 : ∃ x, U.box b2 = some [x]) (h3 : ∃ x, U.box b3 = some [x]) (h4 : ∃ x, U.box b4 = some [x]) (FI : b2 ≠ b3) (FJ : b2 ≠ b4) (Dx : b3 ≠ b4) (hl : lv.cS = true /\ aA lv = [lv])
 (h : ∀ kz, kz.box b2 = some [lv] -> kz.box b3 = some [.int .i64 p] -> kz.box b4 = some [.int .i64 e] -> (∀ b, b ≠ b2 -> b ≠ b3 -> b ≠ b4 -> kz.live b = U.live b) -> K' (.aO []) kz) :
 (aQ (some (false, 1)) (.box b2 0) lv U).wp K U (fun _ U => (aQ (some (false, 1)) (.box b3 0) (.int .i64 p) U).wp K U (fun _ U => (aQ (some (false, 1)) (.box b4 0) (.int .i64 e) U).wp K U K' Kp) Kp) Kp := by
 obtain ⟨x2, h2⟩ := h2
 obtain ⟨x3, h3⟩ := h3
 obtain ⟨x4, h4⟩ := h4
 rw [dD h2]
 refine ⟨⟨hl.1, by rw [hl.2]; rfl, by simp⟩, ?_⟩
 rw [dD (show (U.set b2 _).box b3 = some [x3] by rw [aY FI.symm]; exact h3)]
 refine ⟨⟨rfl, rfl, by simp⟩, ?_⟩
 rw [dD (show ((U.set b2 _).set b3 _).box b4 = some [x4] by rw [aY Dx.symm, aY FJ.symm]; exact h4)]
 refine ⟨⟨rfl, rfl, by simp⟩, h _ ?_ ?_ ?_ fun b m2 m3 m4 => ?_⟩
 · rw [aY FJ, aY FI, bo, hl.2]; rfl
 · rw [aY Dx, bo]; rfl
 · rw [bo]; rfl
 · rw [eM, if_neg m4, eM, if_neg m3, eM, if_neg m2]
theorem E8 (s : bg) (hs : s.length <= 3000) : Pure K 33 [.str s] (vX (nX s)) := by
 refine Pure.FQ rfl (by cases nX s with | ok l => simp [vX, closed, bG, Es] | bad p e => rfl) fun R hR => ?_
 refine Of ?_
 unfold Qh
 rw [dO rfl]
 intro b1 dK
 rw [dQ]
 intro b2 ij
 rw [dQ]
 intro b3 gY
 rw [dQ]
 intro b4 o5
 have n12 : b1 ≠ b2 := ij.cD aN
 have g1 := aN (U := br ⟨.e, 0⟩) (b := b1) (l := aA (.str s))
 generalize NI : (br _).new b1 _ = bT at *
 have YH := (bH ij (x := .box [.ax])).bL g1
 have g2 := aN (U := bT) (b := b2) (l := [.ax])
 generalize NJ : bT.new b2 _ = bR at *
 have Uj := (bH gY (x := .box [.int .i64 0])).bL YH
 have Uk := (bH gY (x := .box [.int .i64 0])).bL g2
 have g3 := aN (U := bR) (b := b3) (l := [.int .i64 0])
 have FI : b2 ≠ b3 := gY.cD g2
 generalize aaz : bR.new b3 _ = c8 at *
 have k1 := (bH o5 (x := .box [.int .i64 0])).bL Uj
 have k2 := (bH o5 (x := .box [.int .i64 0])).bL Uk
 have k3 := (bH o5 (x := .box [.int .i64 0])).bL g3
 have k4 := aN (U := c8) (b := b4) (l := [.int .i64 0])
 have FJ : b2 ≠ b4 := o5.cD Uk
 have Dx : b3 ≠ b4 := o5.cD g3
 generalize Db : c8.new b4 _ = dq at *
 clear NI NJ aaz Db g1 YH Uj g2 Uk g3 dK ij gY o5
 replace k1 : dq.box b1 = some [.str s] := k1
 have fin : ∀ (ae : St) (lv : AV) (p e : Int), ae.box b2 = some [lv] -> ae.box b3 = some [.int .i64 p] -> ae.box b4 = some [.int .i64 e] -> (∀ kz, resolve 5 kz (.aO [lv, .int .i64 p, .int .i64 e]) = vX (nX s)) ->
  bF (some (false, 1)) (.box b2 0) ae fun r0 => bF (some (false, 1)) (.box b3 0) ae fun r1 => bF (some (false, 1)) (.box b4 0) ae fun r2 => aj R (.aO [r0, r1, r2]) ae := by
  intro ae lv p e m2 m3 m4 hres
  rw [DL m2 (ej), DL m3 (ej), DL m4 (ej)]
  exact aj.mk (hR _ _ (hres _))
 simp only [fh k1, AM, List.drop, bB]
 refine (M6 s).go ?_
 simp only [bK, List.drop, bB, bS, ai]
 have gS : nX s = if (rH s).2 ≠ 0 then .bad (rH s).1 (rH s).2 else kX s.length s 0 [] := rfl
 by_cases he : (rH s).2 = 0
 · simp only [he, bM, bU, aU]
   rw [if_neg (by simp [he])] at gS
   rw [dQ]
   intro b7 qV
   have n71 := (qV.cD k1).symm
   have n72 := (qV.cD k2).symm
   have n73 := (qV.cD k3).symm
   have n74 := (qV.cD k4).symm
   have e5 := bH qV (x := .box [.ax])
   have m7 := aN (U := dq) (b := b7) (l := [.ax])
   generalize aaA : dq.new b7 _ = eh at *
   rw [fh (e5.bL k1), ej, bB]
   refine OD ?_
   unfold QE
   rw [dO rfl]
   intro bs Iq
   have n7s := Iq.cD m7
   have e6 := bH Iq (x := .box (aA (.str s)))
   have ms := aN (U := eh) (b := bs) (l := aA (.str s))
   generalize aaB : eh.new bs _ = pb at *
   rw [dO rfl]
   intro bd Ut
   have n7d := Ut.cD (e6.bL m7)
   have e7 := bH Ut (x := .box (aA (.func (.func 75) [] [.box b7 0])))
   have md := aN (U := pb) (b := bd) (l := aA (.func (.func 75) [] [.box b7 0]))
   generalize aaC : pb.new bd _ = nM at *
   refine aj.mk ?_
   refine ⟨by kernel_rfl, fun o L ho Il Uq Y => ?_⟩
   have H3 := e5.trans (e6.trans e7)
   have T7 : TI nM b1 b2 b3 b4 b7 bs bd s [] := ⟨H3.bL k1, ⟨_, H3.bL k2⟩, ⟨_, H3.bL k3⟩, ⟨_, H3.bL k4⟩, ⟨_, (e6.trans e7).bL m7, .inl ⟨rfl, rfl, rfl⟩, fun _ => rfl⟩, e7.bL ms, md⟩
   have T8 := T7.o0 (bH ho (x := .loop L))
   have L8 := xl (U := nM) (b := o) (L := L)
   generalize aaD : nM.new o _ = BF at *
   clear aaA aaB aaC aaD T7 H3 e5 e6 e7 m7 ms md ho Ut Iq qV k1 k2 k3 k4
   refine KJ ?_
   unfold KI
   refine ⟨fun m v0 v1 v2 v4 ae => ∃ f p l, m = s.length - p /\ v0 = .o9 o /\ v1 = .box bs 0 /\ v2 = .box bd 0 /\ v4 = .int .i64 (p : Nat) /\ p <= s.length /\ s.length - p <= f /\ l.length <= 900 /\ kX f s p l = nX s /\ TI ae b1 b2 b3 b4 b7 bs bd s l /\ ∃ L1, ae.loop o = some L1 /\ L1.st .ready none = L /\ L1.state = .ready /\ L1.eN = none,
    ⟨_, s.length, 0, [], rfl, rfl, rfl, rfl, rfl, by omega, by omega, by simp, gS.symm, T8, L, L8, by cases L; simp_all [eZ.st], Il, Uq⟩, ?_⟩
   clear T8 L8 gS he
   rintro m v0 v1 v2 v4 pA ⟨f, p, l, rfl, rfl, rfl, rfl, rfl, hp, hf, UQ, gS, T, L1, o4, eY, C4, A6⟩
   rw [fh T.hs, ej, bB]
   simp only [gO, ai, bj, aW]
   refine ⟨fun aJ => ?_, fun gn => ?_⟩
   · have aJ : p < s.length := by omega
     have ve : s.drop p = s[p] :: s.drop (p + 1) := gp aJ
     cases f with
     | zero => omega
     | succ f =>
     simp only [kX] at gS
     rw [ve] at gS
     simp only at gS
     rw [fh T.hs, ej, bB, um]
     refine ⟨by omega, ?_⟩
     rw [dC, getD_at aJ]
     intro jj w9
     have c32 : ((s[p].toNat : Int) = 32) = (s[p].toNat = 32) := by simp; omega
     have c10 : ((s[p].toNat : Int) = 10) = (s[p].toNat = 10) := by simp; omega
     have Z0 : ((s[p].toNat : Int) = 126) = (s[p].toNat = 126) := by simp; omega
     have blank : s[p].toNat = 32 \/ s[p].toNat = 10 -> jj (.o9 o) (.box bs 0) (.box bd 0) (.int .i64 (p : Nat)) (.int .u8 s[p].toNat) (.bool true) pA := fun h => by
      refine w9 _ _ _ _ _ _ _ ?_
      rw [if_pos h] at gS
      simp only [bf, cn]
      exact ⟨aX (by omega) (by omega), _, by omega, f, p + 1, l, rfl, rfl, rfl, rfl, by simp, by omega, by omega, UQ, gS, T, L1, o4, eY, C4, A6⟩
     have other : ¬ (s[p].toNat = 32 \/ s[p].toNat = 10) -> jj (.o9 o) (.box bs 0) (.box bd 0) (.int .i64 (p : Nat)) (.int .u8 s[p].toNat) (.bool false) pA := fun h => by
      refine w9 _ _ _ _ _ _ _ ?_
      rw [if_neg h] at gS
      simp only [aU, aR, ai, aW, Z0]
      have after : ∀ {kz : St} {L2 : eZ}, L2 = { L1 with state := .ready, eN := none } -> L2.st .ready none = L /\ L2.state = .ready /\ L2.eN = none := fun h => by
       subst h; exact ⟨by rw [<- eY]; rfl, rfl, rfl⟩
      refine ⟨fun GH => ?_, fun GH => ?_⟩
      · rw [if_pos GH] at gS
        rw [fh T.hs, ej, bB]
        have hdn : ((s.take s.length).drop p) = s[p] :: s.drop (p + 1) := by rw [pj, ve]
        simp only [lG, gA, fo, wp_cond, ai, dC, hdn]
        refine ⟨⟨by omega, by omega, by omega⟩, ?_⟩
        obtain ⟨y, z, aad⟩ := M8 (s[p] :: s.drop (p + 1)) (by rw [<- ve]; simp; omega)
        refine aad.go ?_
        have hlen : ((s[p] :: s.drop (p + 1)).takeWhile fun c => c.toNat ≠ 10).length <= s.length - p := by
         rw [<- ve]; exact Nat.le_trans (qB _).length_le (by simp)
        have cm : 1 <= ((s[p] :: s.drop (p + 1)).takeWhile fun c => c.toNat ≠ 10).length /\ ((s[p] :: s.drop (p + 1)).takeWhile fun c => c.toNat ≠ 10) ≠ [] := by
         rw [nh]; simp [GH]
        generalize ((s[p] :: s.drop (p + 1)).takeWhile fun c => c.toNat ≠ 10) = nt at *
        simp only [bK, List.drop, bB]
        simp only [fM, ym]
        refine Y _ _ _ L1 rfl o4 eY ?_
        refine ⟨L1, o4, C4, ?_⟩
        have hnn : ¬ nt = w_ := cm.2
        simp only [jt, ai, hnn, bZ, cZ, bf]
        refine ⟨_, fX, ?_⟩
        simp only [bu, cJ, ai, bU, aU, gO, cn]
        refine ⟨aX (by omega) (by omega), _, ?_, f, p + nt.length, l, rfl, rfl, rfl, rfl, by simp, by omega, by omega, UQ, gS, (T.oF o4).oF fX, _, fX, ?_⟩
        · omega
        · exact ⟨by rw [<- eY]; rfl, rfl, rfl⟩
      · rw [if_neg GH] at gS
        simp only [fM, ym]
        refine Y _ _ _ L1 rfl o4 eY ?_
        refine ⟨L1, o4, C4, ?_⟩
        have T2 := T.oF (L' := { L1 with state := .busy }) o4
        have L2 : (pA.set o (.loop { L1 with state := .busy })).loop o = some { L1 with state := .busy } := fX
        generalize Yc : pA.set o (.loop { L1 with state := .busy }) = uq at *
        simp only [jt, ai, bM, bU, aU]
        rw [fh T2.h1, ej, bB]
        have hdn : ((s.take s.length).drop p) = s[p] :: s.drop (p + 1) := by rw [pj, ve]
        simp only [lG, gA, fo, wp_cond, ai, dC, hdn]
        refine ⟨⟨by omega, by omega, by omega⟩, ?_⟩
        refine (Gy (s[p] :: s.drop (p + 1)) (by rw [<- ve]; simp; omega)).go ?_
        cases sF : fD (s[p] :: s.drop (p + 1)) with
        | mk e kt =>
        obtain ⟨k, tx⟩ := kt
        rw [sF] at gS
        simp only at gS
        simp only [HA, bK, List.drop, bB]
        rw [dQ]
        intro gL rN
        have g11 : (uq.new gL (.box [AV.int .u8 0, AV.str [], AV.int .i64 0])).box gL = some [AV.int .u8 0, AV.str [], AV.int .i64 0] := aN
        rw [dD g11]
        refine ⟨⟨rfl, rfl, by simp⟩, ?_⟩
        have Ss := ((cH.refl uq).new rN (x := .box [AV.int .u8 0, AV.str [], AV.int .i64 0])).set (x := .box (aH [AV.int .u8 0, AV.str [], AV.int .i64 0] 0 (aA (.agg [.int .u8 (k : Nat), .str tx, .int .i64 0])))) rN.1
        have m11 : ((uq.new gL (.box [AV.int .u8 0, AV.str [], AV.int .i64 0])).set gL (.box (aH [AV.int .u8 0, AV.str [], AV.int .i64 0] 0 (aA (.agg [.int .u8 (k : Nat), .str tx, .int .i64 0]))))).box gL = some [.int .u8 (k : Nat), .str tx, .int .i64 0] := by rw [bo]; rfl
        have n117 : b7 ≠ gL := rN.cD (T2.h7.choose_spec.1)
        generalize (uq.new gL (.box [AV.int .u8 0, AV.str [], AV.int .i64 0])).set gL (.box (aH [AV.int .u8 0, AV.str [], AV.int .i64 0] 0 (aA (.agg [.int .u8 (k : Nat), .str tx, .int .i64 0])))) = ur at *
        have T3 := T2.o0 Ss
        have L3 := Ss.loop L2
        have XR : ∀ (b : Nat) (x : List AV), uq.box b = some x -> b ≠ gL := fun b x h => rN.cD h
        clear Ss g11 rN Yc
        intro j hj
        obtain ⟨v, q1, q2, q3⟩ := T3.h7
        have cont : ∀ e' : Int, (e' ≠ 0 -> nX s = .bad p e') -> (e' = 0 -> l.length < 900 /\ 0 < tx.length /\ kX f s (p + tx.length) (l ++ [⟨k, tx, p⟩]) = nX s) -> (e' = 0 -> e = 0) -> j (.box b2 0) (.box b3 0) (.box b4 0) (.box b7 0) (.int .i64 (p : Nat)) (.box gL 0) (.int .i64 e') ur := by
         intro e' aaa XY UF
         refine hj _ _ _ _ _ _ _ _ ?_
         by_cases jC : e' = 0
         · obtain ⟨abw, fN, UU⟩ := XY jC
           simp only [jC, bS, ai, bM, bU, aU, aV, cq]
           rw [dD m11]
           refine ⟨⟨rfl, rfl, by simp⟩, ?_⟩
           have kp : ∀ {b : Nat} {x : List AV}, b ≠ gL -> ur.box b = some x -> (ur.set gL (.box (aH [.int .u8 (k : Nat), .str tx, .int .i64 0] 2 (aA (.int .i64 (p : Nat)))))).box b = some x := fun h1 h2 => by rw [aY h1]; exact h2
           rw [fh (kp n117 q1), ej, bB]
           rw [rD bo]
           refine ⟨by simp [aH], ?_⟩
           have VI : Grow (ur.set gL (.box (aH [.int .u8 (k : Nat), .str tx, .int .i64 0] 2 (aA (.int .i64 (p : Nat)))))) v 51 3 l.length (gx l) := by
            rcases q2 with q2 | ⟨τ, r1, r2, r3⟩
            · exact .inl q2
            · exact .inr ⟨τ, r1, by rw [ib (fe m11 r2).symm]; exact r2, r3⟩
           have u1 : ∀ {b : Nat} {x : List AV}, ur.box b = some x -> b ≠ gL -> (ur.set gL (.box (aH [.int .u8 (k : Nat), .str tx, .int .i64 0] 2 (aA (.int .i64 (p : Nat)))))).box b = some x := fun h1 h2 => kp h2 h1
           have ZD : (ur.set gL (.box (aH [.int .u8 (k : Nat), .str tx, .int .i64 0] 2 (aA (.int .i64 (p : Nat)))))).loop o = some { L1 with state := .busy } := by
            rw [fA]; exact L3
            rw [eM, if_neg (bX m11 L3).symm]
           have CL : (List.take 3 (List.drop 0 (aH [.int .u8 (k : Nat), .str tx, .int .i64 0] 2 (aA (.int .i64 (p : Nat)))))) = mL ⟨k, tx, p⟩ := by simp [aH, mL]
           rw [CL]
           generalize ur.set gL (.box (aH [.int .u8 (k : Nat), .str tx, .int .i64 0] 2 (aA (.int .i64 (p : Nat))))) = abx at *
           rw [fI]
           refine ⟨by omega, ?_⟩
           rw [eR (o := 0) (s := 3) rfl]
           refine ⟨⟨rfl, rfl, by simp [bN]⟩, ?_⟩
           rw [gQ]
           refine ⟨rfl, ?_⟩
           have P9 := u1 q1 n117
           refine HG (m := 1) (l2 := mL ⟨k, tx, p⟩) VI rfl rfl (by omega) (by omega) (fun h => q3 (rX.1 h)) fun AH v' g1 g2 g3 => ?_
           obtain ⟨kb, kl⟩ := u9 VI g2
           have qY : v'.cS = true /\ aA v' = [v'] := by
            rcases g1 with ⟨_, _, rfl⟩ | ⟨τ, rfl, _, _⟩ <;> exact ⟨rfl, rfl⟩
           rw [dD (kb P9)]
           refine ⟨⟨qY.1, by rw [qY.2]; rfl, by simp⟩, ?_⟩
           have kk : ∀ {b : Nat} {x : List AV}, b7 ≠ b -> AH.box b = some x -> (AH.set b7 (.box (aH [v] 0 (aA v')))).box b = some x := fun h1 h2 => by rw [aY h1.symm]; exact h2
           have lo : (AH.set b7 (.box (aH [v] 0 (aA v')))).loop o = some { L1 with state := .busy } := by
            rw [fA]; exact kl ZD
            rw [eM, if_neg (bX (kb P9) (kl ZD)).symm]
           have zS : ∀ {b : Nat} {x : List AV}, uq.box b = some x -> b ≠ gL := fun h => XR _ _ h
           have T5 : TI (AH.set b7 (.box (aH [v] 0 (aA v')))) b1 b2 b3 b4 b7 bs bd s (l ++ [⟨k, tx, p⟩]) := by
            refine ⟨kk n71 (kb (u1 T3.h1 (zS T2.h1))), ?_, ?_, ?_, ⟨v', by rw [bo, qY.2]; rfl, ?_, fun h => by simp at h⟩, kk n7s (kb (u1 T3.hs (zS T2.hs))), kk n7d (kb (u1 T3.hd (zS T2.hd)))⟩
            · obtain ⟨x, hx⟩ := T2.h2; obtain ⟨y, hy⟩ := T3.h2; exact ⟨y, kk n72 (kb (u1 hy (zS hx)))⟩
            · obtain ⟨x, hx⟩ := T2.h3; obtain ⟨y, hy⟩ := T3.h3; exact ⟨y, kk n73 (kb (u1 hy (zS hx)))⟩
            · obtain ⟨x, hx⟩ := T2.h4; obtain ⟨y, hy⟩ := T3.h4; exact ⟨y, kk n74 (kb (u1 hy (zS hx)))⟩
            · have el : (l ++ [(⟨k, tx, p⟩ : Tk)]).length = l.length + 1 := by simp
              rw [el, xz]
              rcases g1 with ⟨h0, _⟩ | ⟨τ, r1, r2, r3⟩
              · omega
              · exact .inr ⟨τ, r1, by rw [ib (fe (kb P9) r2).symm]; exact r2, r3⟩
           have X0 : ∃ c, v' = .vec (l.length + 1) c (gx (l ++ [⟨k, tx, p⟩])) := by
            rw [xz]
            rcases g1 with ⟨h0, _⟩ | ⟨τ, r1, _, _⟩
            · omega
            · exact ⟨_, r1⟩
           have YO : (AH.set b7 (.box (aH [v] 0 (aA v')))).box b7 = some [v'] := by rw [bo, qY.2]; rfl
           generalize AH.set b7 (.box (aH [v] 0 (aA v'))) = abh at *
           refine ⟨_, lo, ?_⟩
           have T6 := T5.oF (L' := { L1 with state := .ready, eN := none }) lo
           obtain ⟨c, hc⟩ := X0
           subst hc
           have Z8 : (abh.set o (.loop { L1 with state := .ready, eN := none })).box b7 = some [.vec (l.length + 1) c (gx (l ++ [⟨k, tx, p⟩]))] := by rw [aY (bX YO lo)]; exact YO
           simp only [bu, cJ, ai, bU, aU]
           rw [fh T6.hd, ej, bB]
           simp only [show dz K.P 75 = true by kernel_rfl, if_true, iM, jc, jb]
           refine Rq Z8 rfl UQ ?_
           simp only [bu, cn]
           have pw : p + tx.length <= s.length := by
            have := (Az (s := s[p] :: s.drop (p + 1)) (k := k) (t := tx) (by rw [sF, UF jC])).2.length_le
            rw [<- ve] at this
            simp at this
            omega
           refine ⟨aX (by omega) (by omega), _, ?_, f, p + tx.length, l ++ [⟨k, tx, p⟩], rfl, rfl, rfl, rfl, by simp, pw, by omega, by simp; omega, UU, T6, _, fX, by rw [<- eY]; rfl, rfl, rfl⟩
           omega
         · simp only [jC, bS, ai, bZ, cZ, bf]
           refine We T3.h2 T3.h3 T3.h4 FI FJ Dx ⟨rfl, rfl⟩ fun kz m2 m3 m4 mo => ?_
           have ob : ∀ {b : Nat}, (∃ x, ur.box b = some [x]) -> o ≠ b := fun ⟨x, h⟩ => (bX h L3).symm
           have L4 : kz.loop o = some { L1 with state := .busy } := by rw [fA (mo o (ob T3.h2) (ob T3.h3) (ob T3.h4))]; exact L3
           refine ⟨_, L4, ?_⟩
           simp only [bu, cJ, ai, cZ, bf]
           refine aj.mk ⟨_, fX, by simp, ?_⟩
           have kp : ∀ {b : Nat} {x : List AV}, o ≠ b -> kz.box b = some x -> ((kz.set o (.loop { L1 with state := .done, eN := some .ret })).del o).box b = some x := fun h1 h2 => by rw [hX h1.symm, aY h1.symm]; exact h2
           refine fin _ _ _ _ (kp (ob T3.h2) m2) (kp (ob T3.h3) m3) (kp (ob T3.h4) m4) fun c8 => ?_
           rw [aaa jC]; rfl
        have hlen : bw (some false) v = .val (.int .i64 l.length) := by
         rcases q2 with ⟨h0, _, rfl⟩ | ⟨τ, rfl, _, _⟩
         · rw [h0]; rfl
         · rfl
        simp only [aR, ai, aI, aB]
        by_cases AU : e = 0
        · subst AU
          simp only [bM, du, bl, lD q1, ej, eQ, fQ, hlen, au, aR, ay, if_true, ai, aW]
          rw [if_neg (by simp)] at gS
          refine ⟨fun Z9 => ?_, fun Z9 => ?_⟩
          · rw [if_pos (by omega)] at gS
            exact cont 5 (fun _ => gS.symm) (fun h => by omega) (fun h => by omega)
          · rw [if_neg (by omega)] at gS
            have fN := (Az sF).1.1
            exact cont 0 (fun h => absurd rfl h) (fun _ => ⟨by omega, List.length_pos_iff.2 fN, gS⟩) (fun _ => rfl)
        · simp only [AU, bZ, show (false == true) = false from rfl, a8, ay, bm, if_false, ai, aU]
          rw [if_pos AU] at gS
          exact cont e (fun _ => gS.symm) (fun h => absurd h AU) (fun h => h)
     simp only [aR, ai, aW, c32, c10]
     refine ⟨fun h => ?_, fun h => ?_⟩
     · simp only [h, bM]; rw [h] at blank; exact blank (.inl rfl)
     · by_cases nA : s[p].toNat = 10
       · simp only [nA, bM]; rw [nA] at blank; exact blank (.inr rfl)
       · simp only [nA, bZ]; exact other (fun h1 => h1.elim h nA)
   · have hd0 : s.drop p = [] := List.drop_eq_nil_of_le (by omega)
     have UU : nX s = .ok l := by
      rw [<- gS]
      cases f with
      | zero => rfl
      | succ f => simp only [kX]; rw [hd0]
     refine aj.mk ⟨L1, o4, by rw [C4]; simp, ?_⟩
     rw [A6]
     obtain ⟨v, g1, g2, g3⟩ := T.h7
     have dl : ∀ {b : Nat} {x : List AV}, pA.box b = some x -> (pA.del o).box b = some x := fun h => by rw [hX (bX h o4)]; exact h
     have hv : v.cS = true /\ aA v = [v] := by
      rcases g2 with ⟨_, _, rfl⟩ | ⟨τ, rfl, _, _⟩ <;> exact ⟨rfl, rfl⟩
     show (ao (some (false, 1)) (.box b7 0) (pA.del o)).wp K (pA.del o) _ _
     rw [fh (dl g1), ej, bB]
     refine We (T.h2.imp fun _ h => dl h) (T.h3.imp fun _ h => dl h) (T.h4.imp fun _ h => dl h) FI FJ Dx hv fun kz m2 m3 m4 _ => ?_
     refine fin kz _ _ _ m2 m3 m4 fun c8 => ?_
     rw [UU]
     show AV.aO [resolve 4 c8 v, .int .i64 0, .int .i64 0] = _
     rw [DO 2 g2 g3]
     rfl
 · simp only [he, bZ, cZ, bf]
   rw [if_pos he] at gS
   refine We ⟨_, k2⟩ ⟨_, k3⟩ ⟨_, k4⟩ FI FJ Dx ⟨rfl, rfl⟩ fun eh m2 m3 m4 _ => ?_
   exact fin eh _ _ _ m2 m3 m4 fun kz => by rw [gS]; rfl
end Go.Rip
