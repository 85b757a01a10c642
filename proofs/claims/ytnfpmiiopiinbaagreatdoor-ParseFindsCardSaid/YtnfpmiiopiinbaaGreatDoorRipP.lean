/- Lemmas for the proof: no conditions. -/
import Derived.Test.YtnfpmiiopiinbaaGreatDoorRipZz
import Derived.Test.YtnfpmiiopiinbaaGreatDoorRipN
import Derived.Test.YtnfpmiiopiinbaaGreatDoorRipE
import Derived.Test.YtnfpmiiopiinbaaGreatDoorRipF
set_option linter.unusedVariables false
set_option linter.unusedSimpArgs false
set_option linter.loopingSimpArgs false
namespace Go.Rip
open Go.Proofs Go.RowKit
def cls (c : Int) : Int := if c = 32 \/ c = 10 then 1 else if c < 32 \/ c > 126 then 0 else if 48 <= c /\ c <= 57 then 2 else if 97 <= c /\ c <= 122 then 3 else if 65 <= c /\ c <= 90 then 4 else 5
theorem Cw (c : Int) : Pure K 216 [.int .u8 c] (.int .i64 (cls c)) := by
 intro U R hR
 refine LV ?_
 simp (contextual := true) only [LU, oc, mO, aW, bj, fw, dD, dR, ai, aI, aB, jl, bp, a8, aw, az, fT, zj, aX, bh, aV, bS, cm, ite_true, ite_false, beq_true, beq_false, bV, da, cP, if_true, if_false, true_and, and_true, not_true, not_false_iff]
 repeat' (first | refine And.intro ?_ ?_ | intro _)
 all_goals (refine aj.eq hR ?_; simp only [cls, AV.int.injEq, true_and])
 all_goals grind
def Dd (l : List Int) (s : Int) : Int := match l.findIdx? (· = s) with | some i => i | none => -1
theorem EI (c : iV) (l : List Int) (s : Int) (hn : l.length <= 100000) : Pure K 246 [.vec l.length c (l.map (.int .i64)), .int .i64 s] (.int .i64 (Dd l s)) := by
 intro U R hR
 refine Mr ?_
 simp only [Mq, oG, ai]
 refine ⟨fun m v0 v1 v7 v8 ae => ∃ i : Nat, m = l.length - i /\ i <= l.length /\ v0 = .vec l.length c (l.map (.int .i64)) /\ v1 = .int .i64 s /\ v7 = .int .i64 l.length /\ v8 = .int .i64 i /\ ae = U /\ ∀ j, j < i -> l[j]? ≠ some s, ⟨l.length, 0, by simp [Fn.app]⟩, ?_⟩
 intro m v0 v1 v7 v8 ae hI
 obtain ⟨i, rfl, hi, rfl, rfl, rfl, rfl, rfl, eV⟩ := hI
 simp only [bj, ai, aX]
 refine ⟨fun aJ => ?_, fun fZ => ?_⟩
 · have aJ : i < l.length := by omega
   have hd : (l.map (AV.int .i64)).drop (i * 1) = .int .i64 l[i] :: (l.map (AV.int .i64)).drop (i + 1) := by
    rw [Nat.mul_one, fN (by simpa using aJ)]; simp
   simp only [uH, wp_cond, ai, ej, hd, rp, dt, aW, aX]
   refine ⟨by omega, fun he => ?_, fun bQ => ?_⟩
   · refine aj.eq hR ?_
     have : l.findIdx? (· = s) = some i := by
      rw [DL]
      refine ⟨aJ, by simp [he], fun j hj => ?_⟩
      have := eV j hj
      rw [iZ (by omega)] at this
      simpa using this
     simp [Dd, this]
   · simp only [js, er, wp_cond, ai]
     refine ⟨aZ (by omega) (by omega), ?_⟩
     refine ⟨l.length - (i + 1), by omega, i + 1, rfl, by omega, rfl, rfl, rfl, by simp, rfl, fun j hj => ?_⟩
     rcases eD j i with h | h
     · exact eV j h
     · have : j = i := by omega
       subst this
       rw [iZ aJ]; simpa using fun h => bQ h.symm
 · refine aj.eq hR ?_
   have : l.findIdx? (· = s) = none := by
    rw [List.findIdx?_eq_none_iff]
    intro x hx
    obtain ⟨j, hj, rfl⟩ := List.getElem_of_mem hx
    have := eV j (by omega)
    rw [iZ hj] at this
    simpa using this
   simp [Dd, this]
theorem EG (l : List Int) (s : Int) : decide (0 <= Dd l s) = decide (s ∈ l) := by
 unfold Dd
 split
 · rename_i j hj
   obtain ⟨h1, h2, _⟩ := DL.1 hj
   have : s ∈ l := by have := of_decide_eq_true h2; exact this ▸ qN h1
   simp [this]
 · rename_i hj
   rw [List.findIdx?_eq_none_iff] at hj
   have : s ∉ l := fun hm => by simpa using hj s hm
   simp [this]
theorem tJ (c : Int) (cp : iV) (l : List Int) (hn : l.length <= 100000) : Pure K 151 [.int .u8 c, .vec l.length cp (l.map (.int .i64))] (.bool (decide (cls c ∈ l))) := by
 intro U R hR
 refine K4 ?_
 refine (Cw c).go ?_
 refine LS ?_
 refine (EI cp l (cls c) hn).go ?_
 simp only [dR, ai, EG]
 exact aj.mk (aj.mk hR)
theorem Bd (c : UInt8) : decide (cls c.toNat ∈ [2]) = dN c := by
 unfold cls dN
 rw [lL]
 simp only [lg, cP]
 grind
theorem Ji (c : UInt8) : decide (cls c.toNat ∈ [3]) = iN c := by
 unfold cls iN
 rw [lL]
 simp only [lg, cP]
 grind
theorem Jf (c : UInt8) : decide (cls c.toNat ∈ [2, 3, 4]) = cO c := by
 unfold cls cO dN iN wq
 rw [lL]
 simp only [ep, List.not_mem_nil, or_false, cP, ja]
 grind
theorem Jh (c : UInt8) : (!decide (cls c.toNat ∈ [0])) = nW c := by
 unfold cls nW
 rw [lL]
 simp only [lg, cP, Bool.not_eq_true', decide_eq_false_iff_not]
 grind
theorem EJ (c : UInt8) : Pure K 146 [.int .u8 c.toNat] (.bool (nW c)) := by
 intro U R hR
 refine KU ?_
 unfold KT
 rw [fO]
 refine ⟨by omega, ?_⟩
 rw [eM (o := 0) (s := 1) rfl]
 refine ⟨⟨rfl, rfl, by simp [bL]⟩, ?_⟩
 rw [gX]
 refine ⟨rfl, ?_⟩
 refine (tJ c.toNat .full [0] (by simp)).go ?_
 simp only [cU, ai, Jh]
 exact aj.mk hR
theorem getD_at {s : bf} {i : Nat} (h : i < s.length) : s.getD i 0 = s[i] := by simp [sa, h]
theorem Nj (s : bf) : Pure K 74 [.str s] (.aQ [.int .i64 (rQ s).1, .int .i64 (rQ s).2]) := by
 intro U R hR
 refine OK ?_
 unfold QD
 simp only [gT, ai, dD, aX]
 unfold rQ at hR
 refine ⟨fun h => ?_, fun h => ?_⟩
 · rw [if_pos (by omega)] at hR
   exact aj.mk hR
 · rw [if_neg (by omega)] at hR
   refine ⟨fun m v0 v9 v10 ae => ∃ i : Nat, m = s.length - i /\ i <= s.length /\ v0 = .str s /\ v9 = .int .i64 s.length /\ v10 = .int .i64 i /\ ae = U /\ ∀ j (hj : j < s.length), j < i -> nW s[j] = true, ⟨s.length, 0, by simp [Fn.app]⟩, ?_⟩
   rintro m v0 v9 v10 ae ⟨i, rfl, hi, rfl, rfl, rfl, rfl, bw⟩
   simp only [bj, ai, aX]
   refine ⟨fun aJ => ?_, fun fZ => ?_⟩
   · have aJ : i < s.length := by omega
     rw [uu]
     refine ⟨by omega, ?_⟩
     rw [ej, getD_at aJ]
     refine (EJ s[i]).go ?_
     simp only [cU, ai]
     cases hb : nW s[i] with
     | false =>
       simp only [da, bh]
       have : s.findIdx? (fun c => !nW c) = some i := by
        rw [DL]
        exact ⟨aJ, by simp [hb], fun j hj => by simp [bw j (by omega) hj]⟩
       rw [this] at hR
       exact aj.mk hR
     | true =>
       simp only [bV, aV, cq]
       refine ⟨aZ (by omega) (by omega), s.length - (i + 1), by omega, i + 1, rfl, by omega, rfl, rfl, by simp, rfl, fun j hj qt => ?_⟩
       rcases eD j i with h | h
       · exact bw j hj h
       · have : j = i := by omega
         subst this; exact hb
   · have : s.findIdx? (fun c => !nW c) = none := by
      rw [List.findIdx?_eq_none_iff]
      intro x hx
      obtain ⟨j, hj, rfl⟩ := List.getElem_of_mem hx
      simp [bw j hj (by omega)]
     rw [this] at hR
     exact aj.mk hR
theorem py {p : UInt8 -> Bool} : ∀ {l : bf}, (∀ x ∈ l, p x = true) -> l.takeWhile p = l
 | [], _ => rfl
 | c :: l, h => by rw [nj, h c (by simp)]; simp [py (l := l) fun x hx => h x (by simp [hx])]
theorem run_pure (s : bf) (hs : s.length <= 100000) : Pure K 149 [.str s] (.int .i64 (s.takeWhile cO).length) := by
 intro U R hR
 refine KZ ?_
 unfold KY
 refine ⟨fun m v0 v2 ae => ∃ i : Nat, m = s.length - i /\ i <= s.length /\ v0 = .str s /\ v2 = .int .i64 i /\ ae = U /\ ∀ j (hj : j < s.length), j < i -> cO s[j] = true, ⟨s.length, 0, by simp [Fn.app]⟩, ?_⟩
 rintro m v0 v2 ae ⟨i, rfl, hi, rfl, rfl, rfl, bw⟩
 have qx : (s.take i).takeWhile cO = s.take i := by
  refine py fun x hx => ?_
  obtain ⟨j, hj, rfl⟩ := List.getElem_of_mem hx
  simp only [List.length_take] at hj
  rw [List.getElem_take]
  exact bw j (by omega) (by omega)
 have yO : s.takeWhile cO = s.take i ++ (s.drop i).takeWhile cO := by
  conv => lhs; rw [<- List.take_append_drop i s]
  rw [List.takeWhile_append, qx]
  simp
 simp only [gT, ai, bj, aI, aB]
 by_cases aJ : i < s.length
 · have mv : (i : Int) < s.length := by omega
   simp only [mv, bS, dw, bp, aw, tZ, fT, ej, getD_at aJ]
   refine ⟨by simp, ?_⟩
   rw [xV]
   refine ⟨by omega, ?_⟩
   rw [vJ (o := 0) (s := 1) rfl]
   refine ⟨⟨rfl, rfl, by simp [bL]⟩, ?_⟩
   rw [vJ (o := 1) (s := 1) rfl]
   refine ⟨⟨rfl, rfl, by simp [bL, aA]⟩, ?_⟩
   rw [vJ (o := 2) (s := 1) rfl]
   refine ⟨⟨rfl, rfl, by simp [bL, aA]⟩, ?_⟩
   rw [Ad]
   refine ⟨rfl, _, tJ s[i].toNat .full [2, 3, 4] (by simp), ?_⟩
   rw [Jf]
   simp only [az, if_true, ai]
   have hd : s.drop i = s[i] :: s.drop (i + 1) := fN aJ
   cases hb : cO s[i] with
   | true =>
     simp only [bh, cq]
     refine ⟨aZ (by omega) (by omega), s.length - (i + 1), by omega, i + 1, rfl, by omega, rfl, by simp, rfl, fun j hj qt => ?_⟩
     rcases eD j i with h | h
     · exact bw j hj h
     · have : j = i := by omega
       subst this; exact hb
   | false =>
     simp only [aV]
     refine aj.eq hR ?_
     rw [yO, hd, nj, hb]
     simp
     omega
 · have mv : ¬ (i : Int) < s.length := by omega
   simp only [mv, cm, show (false == true) = false from rfl, a8, az, bq, if_false, ai, aV]
   refine aj.eq hR ?_
   rw [yO, List.drop_eq_nil_of_le (by omega)]
   simp; omega
end Go.Rip
namespace Go.Rip
open Go.Proofs Go.RowKit
theorem Bu {s : bf} {i : Nat} (h : i < s.length) : gm 0 (s.take (i + 1)) = min (10 * gm 0 (s.take i) + ((s[i].toNat : Int) - 48)) 1000001 := by
 have : s.take (i + 1) = s.take i ++ [s[i]] := by rw [od, iZ h]; rfl
 rw [this]
 unfold gm
 rw [List.foldl_append]
 rfl
theorem EV (s : bf) (hs : s.length <= 100000) : Pure K 152 [.str s] (.int .i64 (iD s)) := by
 intro U R hR
 refine K6 ?_
 unfold K5
 simp only [gT, ai]
 refine ⟨fun m v0 v3 v6 v7 ae => ∃ i : Nat, m = s.length - i /\ i <= s.length /\ v0 = .str s /\ v3 = .int .i64 (gm 0 (s.take i)) /\ v6 = .int .i64 s.length /\ v7 = .int .i64 i /\ ae = U /\ (s.take i).all dN = true, ⟨s.length, 0, by simp [Fn.app, gm]⟩, ?_⟩
 rintro m v0 v3 v6 v7 ae ⟨i, rfl, hi, rfl, rfl, rfl, rfl, rfl, bw⟩
 have hb := Aa (s.take i) 0 (by omega)
 have uC := p9 (s.take i) 0 bw (by omega)
 simp only [bj, ai, aX]
 refine ⟨fun aJ => ?_, fun fZ => ?_⟩
 · have aJ : i < s.length := by omega
   rw [uu]
   refine ⟨by omega, ?_⟩
   rw [ej, getD_at aJ, fO]
   refine ⟨by omega, ?_⟩
   rw [eM (o := 0) (s := 1) rfl]
   refine ⟨⟨rfl, rfl, by simp [bL]⟩, ?_⟩
   rw [gX]
   refine ⟨rfl, ?_⟩
   refine (tJ s[i].toNat .full [2] (by simp)).go ?_
   rw [Bd]
   simp only [cU, ai]
   have eW : s.take (i + 1) = s.take i ++ [s[i]] := by rw [od, iZ aJ]; rfl
   cases hd : dN s[i] with
   | false =>
     simp only [da, bh]
     refine aj.eq hR ?_
     have : s.all dN = false := by
      rw [Bool.eq_false_iff]
      intro h
      rw [dJ] at h
      rw [h s[i] (qN aJ)] at hd
      cases hd
     simp [iD, this]
   | true =>
     have hc := jY.1 hd
     simp only [bV, aV, Ra]
     refine ⟨aZ (by omega) (by omega), ?_⟩
     rw [uu]
     refine ⟨by omega, ?_⟩
     rw [ej, getD_at aJ]
     have hw : IntKind.u8.wrap ((s[i].toNat : Int) - 48) = (s[i].toNat : Int) - 48 := by
      show ((s[i].toNat : Int) - 48) % 256 = _
      omega
     simp only [fx, Cl, ai, hw, tp, wp_cond, cq, FU]
     refine ⟨aZ (by omega) (by omega), aZ (by omega) (by omega), aZ (by omega) (by omega), ?_⟩
     refine ⟨s.length - (i + 1), by omega, i + 1, rfl, by omega, rfl, ?_, rfl, by simp, rfl, ?_⟩
     · rw [Bu aJ]
       congr 1
       omega
     · rw [eW, List.all_append, bw]; simp [hd]
 · have hi : i = s.length := by omega
   subst hi
   rw [pv] at bw hb uC ⊢
   have hv : Ab s = gm 0 s := rfl
   simp only [gT, ai, dD, aI, aB]
   by_cases h1 : 1 < s.length
   · have CL : (1 : Int) < s.length := by omega
     simp only [CL, bS, dw, bp, aw, tZ, fT, aW, az, if_true, ai, aX]
     have h0 : s.getD (0 : Int).toNat 0 = s[0] := getD_at (by omega)
     rw [h0]
     have hh : s.head? = some s[0] := by
      cases s with
      | nil => simp at h1
      | cons c r => rfl
     refine ⟨⟨by omega, by omega⟩, fun AQ => ?_, fun AQ => ⟨fun hm => ?_, fun hm => ?_⟩⟩
     · refine aj.eq hR ?_
       have Ub : s[0].toNat = (48 : UInt8).toNat := by show s[0].toNat = 48; omega
       have : s[0] = 48 := UInt8.toNat_inj.1 Ub
       simp [iD, bw, h1, hh, this]
     · refine aj.eq hR ?_
       have : ¬ s[0] = 48 := fun e => AQ (by rw [e]; rfl)
       simp [iD, bw, hh, this, hv, hm]
     · refine aj.eq hR ?_
       have : ¬ s[0] = 48 := fun e => AQ (by rw [e]; rfl)
       simp [iD, bw, hh, this, hv, hm]
   · have CL : ¬ (1 : Int) < s.length := by omega
     simp only [CL, cm, show (false == true) = false from rfl, a8, az, bq, if_false, ai, aV, aX]
     refine ⟨fun hm => ?_, fun hm => ?_⟩
     · refine aj.eq hR ?_
       simp [iD, bw, h1, hv, hm]
     · refine aj.eq hR ?_
       simp [iD, bw, h1, hv, hm]
theorem sD (s p : bf) : Pure K 213 [.str s, .str p] (.bool (p.isPrefixOf s)) :=
 Pure.xQ (vs := [.string ⟨s.toArray⟩, .string ⟨p.toArray⟩]) (v := .bool (p.isPrefixOf s)) (fun g us h => by
  simp only [aD, ay] at h
  obtain ⟨_, _, rfl, rfl, _, _, rfl, rfl, rfl⟩ := h; rfl) (fun g => by simp only [ay]) fun w => Tryz.strings_HasPrefix ⟨s.toArray⟩ ⟨p.toArray⟩ w
theorem uj (s : bf) : (fD.find? fun x => x.isPrefixOf s) = if cV.isPrefixOf s then some cV else if iK.isPrefixOf s then some iK else match s with
 | [] => none
 | c :: _ => if c ∈ de then some [c] else none := by
 cases s with
 | nil => rfl
 | cons c r =>
   by_cases h1 : cV.isPrefixOf (c :: r) = true
   · simp only [fD, List.find?_cons, h1, if_true]
   · by_cases h2 : iK.isPrefixOf (c :: r) = true
     · simp only [fD, List.find?_cons, h1, h2, if_true, bq, if_false]
     · simp only [fD, List.find?_cons, h1, h2, bq, if_false]
       have e : ∀ x : UInt8, [x].isPrefixOf (c :: r) = (x == c) := fun x => by simp [List.isPrefixOf]
       simp only [show wL = [61] from rfl, show wK = [60] from rfl, show wG = [43] from rfl, show wI = [45] from rfl, show wF = [42] from rfl, show o6 = [33] from rfl, show o7 = [40] from rfl, show pW = [41] from rfl, show wM = [123] from rfl, show zy = [125] from rfl, show wH = [44] from rfl, show rJ = [59] from rfl, show wJ = [58] from rfl, show zx = [46] from rfl, e]
       by_cases hc : c ∈ de
       · rw [if_pos hc]
         simp only [de, ep, List.not_mem_nil, or_false] at hc
         rcases hc with rfl | rfl | rfl | rfl | rfl | rfl | rfl | rfl | rfl | rfl | rfl | rfl | rfl | rfl <;> rfl
       · rw [if_neg hc]
         simp only [de, ep, List.not_mem_nil, or_false, not_or] at hc
         have f : ∀ x : UInt8, ¬ c = x -> (x == c) = false := fun x h => by simp [Ne.symm h]
         simp only [f _ hc.1, f _ hc.2.1, f _ hc.2.2.1, f _ hc.2.2.2.1, f _ hc.2.2.2.2.1, f _ hc.2.2.2.2.2.1, f _ hc.2.2.2.2.2.2.1, f _ hc.2.2.2.2.2.2.2.1, f _ hc.2.2.2.2.2.2.2.2.1, f _ hc.2.2.2.2.2.2.2.2.2.1, f _ hc.2.2.2.2.2.2.2.2.2.2.1, f _ hc.2.2.2.2.2.2.2.2.2.2.2.1, f _ hc.2.2.2.2.2.2.2.2.2.2.2.2.1, f _ hc.2.2.2.2.2.2.2.2.2.2.2.2.2, List.find?_nil]
theorem De (l : List UInt8) (c : UInt8) : decide (Lib.indexByte l c < 0) = !decide (c ∈ l) := by
 induction l with
 | nil => simp [Lib.indexByte]
 | cons b l ih =>
   have hg := Lib.indexByte_ge l c
   unfold Lib.indexByte
   by_cases h : b = c
   · subst h; simp
   · have hc : ¬ c = b := fun e => h e.symm
     have h' : (b == c) = false := by simp [h]
     rw [h']
     by_cases hm : c ∈ l
     · simp only [hm, bS, bV, decide_eq_false_iff_not] at ih
       have h2 : (Lib.indexByte l c == -1) = false := by simp; omega
       simp [h2, hm]; omega
     · simp only [hm, cm, da, cP] at ih
       have h2 : (Lib.indexByte l c == -1) = true := by simp; omega
       simp [h2, hm, hc]
def nk (s : bf) : Int × Nat × bf := match fD.find? fun x => x.isPrefixOf s with | some x => (0, 4, x) | none => (4, 0, [])
def HN (p : Int × Nat × bf) : AV := .aQ [.agg [.int .u8 p.2.1, .str p.2.2, .int .i64 0], .int .i64 p.1]
theorem MC (s : bf) (hs : s.length <= 100000) : Pure K 150 [.str s] (HN (nk s)) := by
 refine Pure.of rfl rfl (fun U => rfl) fun R hR => ?_
 refine K3 ?_
 unfold K2
 rw [cx]
 intro b hb
 generalize ln : (bD _).new b _ = U
 have dC : U.box b = some [AV.int .u8 0, AV.str [], AV.int .i64 0] := by rw [<- ln]; exact aL
 clear ln hb
 have Pu : ∀ {K' : AV -> St -> Prop} {Kp : AV -> St -> Prop} {z : List AV} {ps : List (Nat × AV)} {U : St}, (c7 none (some z) (some (2, 9, 1)) ps).wp K U K' Kp = (eK (fun i => some (i * 1, 1)) ps z fun z => .val (.agg z)).wp K U K' Kp := rfl
 rw [Pu, eM (o := 0) (s := 1) rfl]
 refine ⟨⟨rfl, rfl, by simp⟩, ?_⟩
 rw [eM (o := 1) (s := 1) rfl]
 refine ⟨⟨rfl, rfl, by simp [aA]⟩, ?_⟩
 rw [Sj]
 have fin : ∀ (k : Nat) (x : bf) (e : Int) (ps : List (Nat × AV)) (ae : St), ae.box b = some [AV.int .u8 0, AV.str [], AV.int .i64 0] -> xD [(0, 1), (1, 1), (2, 1)] ps [AV.int .u8 0, AV.str [], AV.int .i64 0] = some [.int .u8 k, .str x, .int .i64 0] -> nk s = (e, k, x) ->
  (c7 (some [(0, 1), (1, 1), (2, 1)]) (some [AV.int .u8 0, AV.str [], AV.int .i64 0]) none ps).wp K ae (fun v U => (aM (some (true, 3)) (.box b 0) v U).wp K U (fun _ U => bl (some (true, 3)) (.box b 0) U fun r0 => aj R (.aQ [r0, .int .i64 e]) U) (aa R)) (aa R) := by
  intro k x e ps ae dQ h1 h2
  refine nP _ h1 ?_
  rw [cA dQ]
  refine ⟨⟨rfl, rfl, by simp⟩, ?_⟩
  rw [lq aS]
  refine ⟨by simp [aA], ?_⟩
  rw [h2] at hR
  exact aj.eq (hR _) rfl
 refine ⟨fun m v0 v2 v6 v7 ae => ∃ i : Nat, m = 2 - i /\ i <= 2 /\ v0 = .str s /\ v2 = .box b 0 /\ v6 = .agg [.str cV, .str iK] /\ v7 = .int .i64 i /\ ae.box b = some [AV.int .u8 0, AV.str [], AV.int .i64 0] /\ (0 < i -> cV.isPrefixOf s = false) /\ (1 < i -> iK.isPrefixOf s = false),
  ⟨2, 0, rfl, by omega, rfl, rfl, rfl, rfl, dC, by simp, by simp⟩, ?_⟩
 rintro m v0 v2 v6 v7 ae ⟨i, rfl, hi, rfl, rfl, rfl, rfl, dQ, yK, hn1⟩
 simp only [bj, ai, aX]
 refine ⟨fun aJ => ?_, fun fZ => ?_⟩
 · have aJ : i < 2 := by omega
   obtain rfl | rfl : i = 0 \/ i = 1 := by omega
   · simp only [eg, wp_cond]
     refine ⟨by omega, ?_⟩
     simp only [show ((0 : Nat) : Int).toNat * 1 = 0 from rfl, List.drop, fW, ai]
     refine (sD s cV).go ?_
     cases hp : cV.isPrefixOf s with
     | true =>
       simp only [bh]
       refine fin 4 cV 0 _ ae dQ rfl ?_
       simp [nk, uj, hp]
     | false =>
       simp only [aV, cq]
       exact ⟨aZ (by omega) (by omega), 1, by omega, 1, rfl, by omega, rfl, rfl, rfl, rfl, dQ, fun _ => by first | exact hp | trivial, by simp⟩
   · simp only [eg, wp_cond]
     refine ⟨by omega, ?_⟩
     simp only [show ((1 : Nat) : Int).toNat * 1 = 1 from rfl, List.drop, fW, ai]
     refine (sD s iK).go ?_
     cases hp : iK.isPrefixOf s with
     | true =>
       simp only [bh]
       refine fin 4 iK 0 _ ae dQ rfl ?_
       simp [nk, uj, hp, yK (by omega)]
     | false =>
       simp only [aV, cq]
       exact ⟨aZ (by omega) (by omega), 0, by omega, 2, rfl, by omega, rfl, rfl, rfl, rfl, dQ, fun _ => yK (by omega), fun _ => by first | exact hp | trivial⟩
 · have hi2 : i = 2 := by omega
   subst hi2
   have p0 := yK (by omega)
   have p1 := hn1 (by omega)
   simp only [gb, ai, aI, aB]
   cases s with
   | nil =>
     simp only [show w_ = ([] : List UInt8) from rfl, bS, show (true == false) = false from rfl, a8, az, if_true, ai, bh]
     exact fin 0 [] 4 _ ae dQ rfl rfl
   | cons c r =>
     have bQ : ¬ (c :: r = w_) := by simp [show w_ = ([] : List UInt8) from rfl]
     simp only [bQ, cm, dw, bp, aw, tZ, fT, az, bq, if_false, ai]
     refine ⟨by simp, _, sN de c.toNat, ?_⟩
     simp only [bj, aw, az, bq, if_false, ai]
     have hcc : ((c.toNat : Int).toNat).toUInt8 = c := by simp
     rw [hcc, De]
     cases hm : decide (c ∈ de) with
     | false =>
       have IQ : ¬ c ∈ de := by simpa using hm
       simp only [da, bh]
       refine fin 0 [] 4 _ ae dQ rfl ?_
       simp [nk, uj, p0, p1, IQ]
     | true =>
       have IQ : c ∈ de := by simpa using hm
       simp only [bV, aV, lO, gB, ij, wp_cond, ai]
       refine ⟨⟨by omega, by omega, by simp; omega⟩, ?_⟩
       refine fin 4 [c] 0 _ ae dQ rfl ?_
       simp [nk, uj, p0, p1, IQ]
end Go.Rip
namespace Go.Rip
open Go.Proofs Go.RowKit
theorem Dq (s : bf) : ∀ l : List bf, kn .s (.str s) (.bool false) false (l.map .str) (l.map fun _ => .bool true) = .val (.bool (decide (s ∈ l)))
 | [] => by simp [kn]
 | x :: l => by
   simp only [dy, kn, fz]
   by_cases h : s = x
   · subst h; simp
   · rw [show (s == x) = false by simp [h]]
     have := Dq s l
     simp only [bq, if_false, this]
     simp [h]
theorem MZ : zB = .eI (km.map .str) (km.map fun _ => .bool true) := rfl
theorem HU (s : bf) (U : St) : fq (some (.s, 4)) (some (AV.bool false)) zB (.str s) false U = .val (.bool (decide (s ∈ km))) := by
 rw [MZ]
 simp only [fq, kg, nX]
 exact Dq s km
theorem GJ (s : bf) (hs : s.length <= 100000) : Pure K 77 [.str s] (HN (fE s)) := by
 refine Pure.of rfl rfl (fun U => rfl) fun R hR => ?_
 refine ON ?_
 unfold QG
 rw [cx]
 intro b hb
 generalize ln : (bD _).new b _ = U
 have dC : U.box b = some [AV.int .u8 0, AV.str [], AV.int .i64 0] := by rw [<- ln]; exact aL
 clear ln hb
 refine (run_pure s hs).go ?_
 have qx : s.take (s.takeWhile cO).length = s.takeWhile cO := by
  have := qM cO (l := s)
  exact (List.prefix_iff_eq_take.1 this).symm
 have hle : (s.takeWhile cO).length <= s.length := (qM cO).length_le
 simp only [lO, gB, ij, wp_cond, ai, ej, qx, show (0 : Int).toNat = 0 from rfl, dX, gb, aX]
 refine ⟨⟨by omega, by omega, by omega⟩, fun h0 => ?_, fun h0 => ?_⟩
 · have h0 : s.takeWhile cO = [] := h0
   refine (MC s hs).go ?_
   simp only [HN, bR, List.drop, bG]
   rw [cA dC]
   refine ⟨⟨rfl, rfl, by simp⟩, ?_⟩
   rw [lq aS]
   refine ⟨by simp [aA], aj.eq (hR _) ?_⟩
   have : fE s = nk s := by unfold fE nk; rw [h0]; rfl
   rw [this]; rfl
 · cases hw : s.takeWhile cO with
   | nil => exact absurd hw h0
   | cons c r =>
     have hlw : (c :: r).length <= s.length := by rw [<- hw]; exact hle
     have ht : fE s = if dN c then (iD (c :: r), 2, c :: r) else if iN c = false then (4, 0, []) else if (c :: r) ∈ km then (0, 3, c :: r) else if 12 < (c :: r).length then (4, 0, []) else (0, 1, c :: r) := by
      unfold fE; rw [hw]
     have fin : ∀ (k : Nat) (x : bf) (e : Int) (zs : List AV) (ae : St), zs = [.int .u8 k, .str x, .int .i64 0] -> ae.box b = some [AV.int .u8 0, AV.str [], AV.int .i64 0] -> fE s = (e, k, x) ->
      (aM (some (true, 3)) (.box b 0) (.agg zs) ae).wp K ae (fun _ U => bl (some (true, 3)) (.box b 0) U fun r0 => aj R (.aQ [r0, .int .i64 e]) U) (aa R) := by
      intro k x e zs ae hz dQ h2
      subst hz
      rw [cA dQ]
      refine ⟨⟨rfl, rfl, by simp⟩, ?_⟩
      rw [lq aS]
      refine ⟨by simp [aA], ?_⟩
      rw [h2] at hR
      exact aj.eq (hR _) rfl
     have one : ∀ (cl : Int) (K' : AV -> St -> Prop) (ae : St), K' (.bool (decide (cls c.toNat ∈ [cl]))) ae ->
      (eg true none none (.str (c :: r)) (.int .i64 0)).wp K ae (fun cg U => (aP (some (178, 1)) (some [AV.int .i64 0]) 1 false [(0, (AV.int .i64 cl))]).wp K U (fun cH U => af K 151 [cg, cH] U (au K' (aa R))) (aa R)) (aa R) := by
      intro cl K' ae h
      rw [uu]
      refine ⟨⟨by omega, by simp⟩, ?_⟩
      rw [fO]
      refine ⟨by omega, ?_⟩
      rw [eM (o := 0) (s := 1) rfl]
      refine ⟨⟨rfl, rfl, by simp [bL]⟩, ?_⟩
      rw [gX]
      refine ⟨rfl, ?_⟩
      exact (tJ c.toNat .full [cl] (by simp)).go h
     refine one 2 _ _ ?_
     rw [Bd]
     cases hd : dN c with
     | true =>
       simp only [bh]
       refine nP [.int .u8 2, .str (c :: r), .int .i64 0] rfl ?_
       refine (EV (c :: r) (by omega)).go ?_
       exact fin 2 (c :: r) _ _ _ rfl dC (by rw [ht, if_pos hd])
     | false =>
       simp only [aV]
       refine one 3 _ _ ?_
       rw [Ji]
       simp only [cU, ai]
       have pB : ¬ (dN c = true) := by rw [hd]; simp
       cases kK : iN c with
       | false =>
         simp only [da, bh]
         refine nP [.int .u8 0, .str [], .int .i64 0] rfl ?_
         exact fin 0 [] _ _ _ rfl dC (by rw [ht, if_neg pB, if_pos kK])
       | true =>
         have dA : ¬ (iN c = false) := by rw [kK]; simp
         simp only [bV, aV]
         refine zD.go ?_
         simp only [HU, ai, aX, gT, dD]
         refine ⟨fun hk => ?_, fun hk => ⟨fun hl => ?_, fun hl => ?_⟩⟩
         · refine nP [.int .u8 3, .str (c :: r), .int .i64 0] rfl ?_
           exact fin 3 (c :: r) _ _ _ rfl dC (by rw [ht, if_neg pB, if_neg dA, if_pos hk])
         · refine nP [.int .u8 0, .str [], .int .i64 0] rfl ?_
           exact fin 0 [] _ _ _ rfl dC (by rw [ht, if_neg pB, if_neg dA, if_neg hk, if_pos (by omega)])
         · refine nP [.int .u8 1, .str (c :: r), .int .i64 0] rfl ?_
           exact fin 1 (c :: r) _ _ _ rfl dC (by rw [ht, if_neg pB, if_neg dA, if_neg hk, if_neg (by omega)])
end Go.Rip
namespace Go.Rip
open Go.Proofs Go.RowKit
theorem zo (u : bf) : (Lib.indexByte u 10 = -1 /\ u.takeWhile (fun c => c.toNat ≠ 10) = u) \/ ∃ k : Nat, Lib.indexByte u 10 = k /\ k < u.length /\ u.takeWhile (fun c => c.toNat ≠ 10) = u.take k := by
 have nD : ∀ c : UInt8, c.toNat = 10 ↔ c = 10 := fun c => ⟨fun h => UInt8.toNat_inj.1 h, fun h => by rw [h]; rfl⟩
 induction u with
 | nil => left; exact ⟨rfl, rfl⟩
 | cons b u ih =>
   unfold Lib.indexByte
   by_cases hb : b = 10
   · right
     refine ⟨0, by simp [hb], by simp, ?_⟩
     rw [nj]
     simp [(nD b).2 hb]
   · have dQ : (b == 10) = false := by simp [hb]
     have hn : (decide (b.toNat ≠ 10)) = true := by simp [nD, hb]
     rw [nj, hn]
     rcases ih with ⟨h1, h2⟩ | ⟨k, h1, h2, h3⟩
     · left; rw [h1, h2]; simp [dQ]
     · right
       refine ⟨k + 1, ?_, by simp; omega, ?_⟩
       · rw [h1, dQ]
         have : ((k : Int) == -1) = false := by simp
         simp [this]
       · simp only [if_true, List.take_succ_cons, h3]
theorem Nl (u : bf) (hu : u.length <= 100000) : ∃ y z, Pure K 148 [.str u, .str zw] (.aQ [.str (u.takeWhile fun c => c.toNat ≠ 10), y, z]) := by
 have go : ∀ x y z, Pure K 212 [.str u, .str zw] (.aQ [x, y, z]) -> Pure K 148 [.str u, .str zw] (.aQ [x, y, z]) := fun x y z h U R hR => by
  refine KX ?_
  refine h.go ?_
  simp only [bR, List.drop, bG]
  exact aj.mk hR
 have hi := sO u 10
 rcases zo u with ⟨h1, h2⟩ | ⟨k, h1, h2, h3⟩
 · refine ⟨_, _, go _ (.str w_) (.bool false) fun U R hR => ?_⟩
   refine BC ?_
   refine hi.go ?_
   rw [h1]
   simp only [dR, ai, show decide ((0 : Int) <= -1) = false from rfl, aV]
   rw [h2] at hR
   exact aj.mk hR
 · refine ⟨_, _, go _ (.str (u.drop (k + 1))) (.bool true) fun U R hR => ?_⟩
   refine BC ?_
   refine hi.go ?_
   rw [h1]
   have h0 : decide ((0 : Int) <= (k : Nat)) = true := by simp
   simp only [dR, ai, h0, bh, lO, gB, ij, gG, aw, gT, zd, show (zw : List UInt8).length = 1 from rfl, ej]
   refine ⟨⟨by omega, by omega, by omega⟩, aZ (by omega) (by omega), ⟨by omega, by omega, by omega⟩, ?_⟩
   rw [h3] at hR
   refine aj.eq hR ?_
   have e1 : ((k : Int) + ((1 : Nat) : Int)).toNat = k + 1 := by omega
   simp [e1]
theorem Rr {U : St} {R : cB -> St -> Prop} {b n : Nat} {c : iV} {l : List Tk} {t : Tk} {a : AV} (hb : U.box b = some [.vec n c (gy (l ++ [t]))]) (hn : n = l.length + 1) (hl : l.length <= 900) (h : R (.ret (.int .i64 t.s.length)) U) : af K 75 [a, .box b 0] U R := by
 refine OL ?_
 subst hn
 unfold QE
 simp only [ff hb, List.drop, bG, oG, ai, Rc]
 refine ⟨aZ (by omega) (by omega), ?_⟩
 rw [Av]
 refine ⟨by omega, ?_⟩
 have e : (((l.length + 1 : Nat) : Int) - 1).toNat = l.length := by omega
 rw [e]
 obtain ⟨r, hr⟩ := Ao (L := l ++ [t]) (i := l.length) (t := t) (by simp)
 rw [hr]
 simp only [dr, ai, mP, jV, List.drop, mR, bG, gT]
 exact aj.mk h
def uo (l : List Tk) : AV := if l = [] then .al else .vec l.length .iW (gy l)
theorem xv (l l' : List Tk) : gy (l ++ l') = gy l ++ gy l' := by simp [gy]
structure TI (U : St) (b1 b2 b3 b4 b7 bs bd : Nat) (s : bf) (l : List Tk) : Prop where
 h1 : U.box b1 = some [.str s]
 h2 : ∃ x, U.box b2 = some [x]
 h3 : ∃ x, U.box b3 = some [x]
 h4 : ∃ x, U.box b4 = some [x]
 h7 : ∃ v, U.box b7 = some [v] /\ Grow U v 51 3 l.length (gy l) /\ (l = [] -> v = .al)
 hs : U.box bs = some [.str s]
 hd : U.box bd = some [.func (.func 75) [] [.box b7 0]]
theorem eR {U ae : St} {b : Nat} (h : ae.live b = U.live b) : ae.loop b = U.loop b := by simp [St.loop, h]
theorem gd {U : St} {b : Nat} {L : eY} : (U.set b (.loop L)).loop b = some L := by simp [St.loop, ez]
theorem xk {U : St} {b : Nat} {L : eY} : (U.new b (.loop L)).loop b = some L := by simp [St.loop, ng]
theorem bO {U : St} {b b' : Nat} {l : List AV} {L : eY} (h : U.box b = some l) (k : U.loop b' = some L) : b ≠ b' := by
 rintro rfl
 unfold St.box at h; unfold St.loop at k
 split at k
 · rename_i e; simp [e] at h
 · cases k
theorem xw {U : St} {b b' : Nat} {l : Tok} {L : eY} (h : U.tok b = some l) (k : U.loop b' = some L) : b ≠ b' := by
 rintro rfl
 unfold St.tok at h; unfold St.loop at k
 split at k
 · rename_i e; simp [e] at h
 · cases k
theorem TI.oN {U : St} {b1 b2 b3 b4 b7 bs bd o : Nat} {s : bf} {l : List Tk} (T : TI U b1 b2 b3 b4 b7 bs bd s l) {L L' : eY} (hL : U.loop o = some L) : TI (U.set o (.loop L')) b1 b2 b3 b4 b7 bs bd s l := by
 have k : ∀ {b : Nat} {x : List AV}, U.box b = some x -> (U.set o (.loop L')).box b = some x := fun h => by rw [aN (bO h hL)]; exact h
 obtain ⟨v, g1, g2, g3⟩ := T.h7
 refine ⟨k T.h1, T.h2.imp fun _ h => k h, T.h3.imp fun _ h => k h, T.h4.imp fun _ h => k h, ⟨v, k g1, ?_, g3⟩, k T.hs, k T.hd⟩
 rcases g2 with g2 | ⟨τ, e, ht, hl⟩
 · exact .inl g2
 · exact .inr ⟨τ, e, by rw [jo (xw ht hL)]; exact ht, hl⟩
theorem TI.o9 {U ae : St} {b1 b2 b3 b4 b7 bs bd : Nat} {s : bf} {l : List Tk} (T : TI U b1 b2 b3 b4 b7 bs bd s l) (e : cJ U ae) : TI ae b1 b2 b3 b4 b7 bs bd s l := by
 obtain ⟨v, g1, g2, g3⟩ := T.h7
 refine ⟨e.bo T.h1, T.h2.imp fun _ h => e.bo h, T.h3.imp fun _ h => e.bo h, T.h4.imp fun _ h => e.bo h, ⟨v, e.bo g1, ?_, g3⟩, e.bo T.hs, e.bo T.hd⟩
 rcases g2 with g2 | ⟨τ, e1, ht, hl⟩
 · exact .inl g2
 · exact .inr ⟨τ, e1, e.tok ht, hl⟩
theorem Pure.Qc {f : Nat} {args : List AV} {x : AV} (hargs : bU args = true) (hx : closed x = true)
 (h : ∀ R : cB -> St -> Prop, (∀ v ae, resolve 5 ae v = x -> R (.ret v) ae) -> af K f args (bD ⟨.e, 0⟩) R) : Pure K f args x :=
 Pure.wz wU hargs hx 5 (h _ fun v ae e => ⟨v, rfl, e⟩)
theorem E8 (n : Nat) (U : St) (l : List Tk) : (gy l).map (resolve (n + 1) U) = gy l := by
 induction l with
 | nil => rfl
 | cons t l ih =>
   show ((mP t ++ gy l).map (resolve (n + 1) U)) = mP t ++ gy l
   rw [List.map_append, ih]; rfl
theorem GA (l : List Tk) : bU (gy l) = true := by
 induction l with
 | nil => rfl
 | cons t l ih => show bU (mP t ++ gy l) = true; simp [mP, bU, closed, ih]
theorem Ew (l : List Tk) : closed (uo l) = true := by
 unfold uo; split
 · rfl
 · exact GA l
theorem DQ {U ae : St} {v : AV} {l : List Tk} (n : Nat) (h : Grow U v 51 3 l.length (gy l)) (h0 : l = [] -> v = .al) : resolve (n + 2) ae v = uo l := by
 unfold uo
 split
 · rename_i e; rw [h0 e]; rfl
 · rename_i e
   rcases h with ⟨h1, _, _⟩ | ⟨τ, rfl, _, _⟩
   · exact absurd (qL.1 h1) e
   · show AV.vec l.length .iW ((gy l).map (resolve (n + 1) ae)) = _
     rw [E8]
def vX : Ca -> AV
 | .ok l => .aQ [uo l, .int .i64 0, .int .i64 0]
 | .bad p e => .aQ [.al, .int .i64 p, .int .i64 e]
theorem cJ.loop {U ae : St} {b : Nat} {L : eY} (h : cJ U ae) (k : U.loop b = some L) : ae.loop b = some L := by
 cases e : U.live b with
 | none => simp [St.loop, e] at k
 | some x => rw [eR ((h b x e).trans e.symm)]; exact k
theorem AO {U ae : St} {v : AV} {e sz n : Nat} {l : List AV} (g : Grow U v e sz n l) (e1 : ∀ b x, (∀ n l, v ≠ .vec n (.own b) l) -> U.live b = some x -> ae.live b = some x) :
 (∀ {b : Nat} {x : List AV}, U.box b = some x -> ae.box b = some x) /\ (∀ {b : Nat} {L : eY}, U.loop b = some L -> ae.loop b = some L) := by
 refine ⟨fun {b x} h => ?_, fun {b L} h => ?_⟩
 · cases e : U.live b with
   | none => exact absurd e (cK h)
   | some y =>
     have := e1 b y (fun n' l' hv => by
      rcases g with ⟨_, _, g⟩ | ⟨τ, g, ht, _⟩
      · rw [g] at hv; cases hv
      · rw [g] at hv; cases hv; exact fJ h ht rfl) e
     rw [gC (this.trans e.symm)]; exact h
 · cases e : U.live b with
   | none => simp [St.loop, e] at h
   | some y =>
     have := e1 b y (fun n' l' hv => by
      rcases g with ⟨_, _, g⟩ | ⟨τ, g, ht, _⟩
      · rw [g] at hv; cases hv
      · rw [g] at hv; cases hv; exact xw ht h rfl) e
     rw [eR (this.trans e.symm)]; exact h
theorem Wa {U : St} {b2 b3 b4 : Nat} {lv : AV} {p e : Int} {K' : AV -> St -> Prop} {Kp : AV -> St -> Prop} (h2 : ∃ x, U.box b2 = some [x]) (h3 : ∃ x, U.box b3 = some [x]) (h4 : ∃ x, U.box b4 = some [x]) (FV : b2 ≠ b3) (Dx : b2 ≠ b4) (Bq : b3 ≠ b4) (hl : lv.cS = true /\ ax lv = [lv])
 (h : ∀ jb, jb.box b2 = some [lv] -> jb.box b3 = some [.int .i64 p] -> jb.box b4 = some [.int .i64 e] -> (∀ b, b ≠ b2 -> b ≠ b3 -> b ≠ b4 -> jb.live b = U.live b) -> K' (.aQ []) jb) :
 (aM (some (false, 1)) (.box b2 0) lv U).wp K U (fun _ U => (aM (some (false, 1)) (.box b3 0) (.int .i64 p) U).wp K U (fun _ U => (aM (some (false, 1)) (.box b4 0) (.int .i64 e) U).wp K U K' Kp) Kp) Kp := by
 obtain ⟨x2, h2⟩ := h2
 obtain ⟨x3, h3⟩ := h3
 obtain ⟨x4, h4⟩ := h4
 rw [cA h2]
 refine ⟨⟨hl.1, by rw [hl.2]; rfl, by simp⟩, ?_⟩
 rw [cA (show (U.set b2 _).box b3 = some [x3] by rw [aN FV.symm]; exact h3)]
 refine ⟨⟨rfl, rfl, by simp⟩, ?_⟩
 rw [cA (show ((U.set b2 _).set b3 _).box b4 = some [x4] by rw [aN Bq.symm, aN Dx.symm]; exact h4)]
 refine ⟨⟨rfl, rfl, by simp⟩, h _ ?_ ?_ ?_ fun b m2 m3 m4 => ?_⟩
 · rw [aN Dx, aN FV, aS, hl.2]; rfl
 · rw [aN Bq, aS]; rfl
 · rw [aS]; rfl
 · rw [ez, if_neg m4, ez, if_neg m3, ez, if_neg m2]
theorem Fc (s : bf) (hs : s.length <= 3000) : Pure K 33 [.str s] (vX (nZ s)) := by
 refine Pure.Qc rfl (by cases nZ s with | ok l => simp [vX, closed, bU, Ew] | bad p e => rfl) fun R hR => ?_
 refine Ov ?_
 unfold Qm
 rw [eA rfl]
 intro b1 dC
 rw [cx]
 intro b2 gK
 rw [cx]
 intro b3 jN
 rw [cx]
 intro b4 jk
 have n12 : b1 ≠ b2 := gK.bZ aL
 have g1 := aL (U := bD ⟨.e, 0⟩) (b := b1) (l := ax (.str s))
 generalize NT : (bD _).new b1 _ = bJ at *
 have Yz := (bm gK (x := .box [.al])).bo g1
 have g2 := aL (U := bJ) (b := b2) (l := [.al])
 generalize NU : bJ.new b2 _ = bX at *
 have Ug := (bm jN (x := .box [.int .i64 0])).bo Yz
 have Uh := (bm jN (x := .box [.int .i64 0])).bo g2
 have g3 := aL (U := bX) (b := b3) (l := [.int .i64 0])
 have FV : b2 ≠ b3 := jN.bZ g2
 generalize aau : bX.new b3 _ = cE at *
 have k1 := (bm jk (x := .box [.int .i64 0])).bo Ug
 have k2 := (bm jk (x := .box [.int .i64 0])).bo Uh
 have k3 := (bm jk (x := .box [.int .i64 0])).bo g3
 have k4 := aL (U := cE) (b := b4) (l := [.int .i64 0])
 have Dx : b2 ≠ b4 := jk.bZ Uh
 have Bq : b3 ≠ b4 := jk.bZ g3
 generalize Dc : cE.new b4 _ = cW at *
 clear NT NU aau Dc g1 Yz Ug g2 Uh g3 dC gK jN jk
 replace k1 : cW.box b1 = some [.str s] := k1
 have fin : ∀ (ae : St) (lv : AV) (p e : Int), ae.box b2 = some [lv] -> ae.box b3 = some [.int .i64 p] -> ae.box b4 = some [.int .i64 e] -> (∀ jb, resolve 5 jb (.aQ [lv, .int .i64 p, .int .i64 e]) = vX (nZ s)) ->
  bl (some (false, 1)) (.box b2 0) ae fun r0 => bl (some (false, 1)) (.box b3 0) ae fun r1 => bl (some (false, 1)) (.box b4 0) ae fun r2 => aj R (.aQ [r0, r1, r2]) ae := by
  intro ae lv p e m2 m3 m4 hres
  rw [ud m2 (dX), ud m3 (dX), ud m4 (dX)]
  exact aj.mk (hR _ _ (hres _))
 simp only [ff k1, AG, List.drop, bG]
 refine (Nj s).go ?_
 simp only [bR, List.drop, bG, ct, ai]
 have gZ : nZ s = if (rQ s).2 ≠ 0 then .bad (rQ s).1 (rQ s).2 else lf s.length s 0 [] := rfl
 by_cases he : (rQ s).2 = 0
 · simp only [he, bS, bV, aV]
   rw [if_neg (by simp [he])] at gZ
   rw [cx]
   intro b7 re
   have n71 := (re.bZ k1).symm
   have n72 := (re.bZ k2).symm
   have n73 := (re.bZ k3).symm
   have n74 := (re.bZ k4).symm
   have e5 := bm re (x := .box [.al])
   have m7 := aL (U := cW) (b := b7) (l := [.al])
   generalize aav : cW.new b7 _ = dV at *
   rw [ff (e5.bo k1), dX, bG]
   refine OM ?_
   unfold QF
   rw [eA rfl]
   intro bs IE
   have n7s := IE.bZ m7
   have e6 := bm IE (x := .box (ax (.str s)))
   have ms := aL (U := dV) (b := bs) (l := ax (.str s))
   generalize aaw : dV.new bs _ = ot at *
   rw [eA rfl]
   intro bd Uq
   have n7d := Uq.bZ (e6.bo m7)
   have e7 := bm Uq (x := .box (ax (.func (.func 75) [] [.box b7 0])))
   have md := aL (U := ot) (b := bd) (l := ax (.func (.func 75) [] [.box b7 0]))
   generalize aax : ot.new bd _ = nM at *
   refine aj.mk ?_
   refine ⟨by kernel_rfl, fun o L ho IA Un Y => ?_⟩
   have Ik := e5.trans (e6.trans e7)
   have T7 : TI nM b1 b2 b3 b4 b7 bs bd s [] := ⟨Ik.bo k1, ⟨_, Ik.bo k2⟩, ⟨_, Ik.bo k3⟩, ⟨_, Ik.bo k4⟩, ⟨_, (e6.trans e7).bo m7, .inl ⟨rfl, rfl, rfl⟩, fun _ => rfl⟩, e7.bo ms, md⟩
   have T8 := T7.o9 (bm ho (x := .loop L))
   have L8 := xk (U := nM) (b := o) (L := L)
   generalize aay : nM.new o _ = BF at *
   clear aav aaw aax aay T7 Ik e5 e6 e7 m7 ms md ho Uq IE re k1 k2 k3 k4
   refine KW ?_
   unfold KV
   refine ⟨fun m v0 v1 v2 v4 ae => ∃ f p l, m = s.length - p /\ v0 = .pj o /\ v1 = .box bs 0 /\ v2 = .box bd 0 /\ v4 = .int .i64 (p : Nat) /\ p <= s.length /\ s.length - p <= f /\ l.length <= 900 /\ lf f s p l = nZ s /\ TI ae b1 b2 b3 b4 b7 bs bd s l /\ ∃ L1, ae.loop o = some L1 /\ L1.st .ready none = L /\ L1.state = .ready /\ L1.eJ = none,
    ⟨_, s.length, 0, [], rfl, rfl, rfl, rfl, rfl, by omega, by omega, by simp, gZ.symm, T8, L, L8, by cases L; simp_all [eY.st], IA, Un⟩, ?_⟩
   clear T8 L8 gZ he
   rintro m v0 v1 v2 v4 pI ⟨f, p, l, rfl, rfl, rfl, rfl, rfl, hp, hf, UM, gZ, T, L1, pb, eW, C5, AZ⟩
   rw [ff T.hs, dX, bG]
   simp only [gT, ai, bj, aX]
   refine ⟨fun aJ => ?_, fun fZ => ?_⟩
   · have aJ : p < s.length := by omega
     have ve : s.drop p = s[p] :: s.drop (p + 1) := fN aJ
     cases f with
     | zero => omega
     | succ f =>
     simp only [lf] at gZ
     rw [ve] at gZ
     simp only at gZ
     rw [ff T.hs, dX, bG, uu]
     refine ⟨by omega, ?_⟩
     rw [ej, getD_at aJ]
     intro jj xd
     have c32 : ((s[p].toNat : Int) = 32) = (s[p].toNat = 32) := by simp; omega
     have c10 : ((s[p].toNat : Int) = 10) = (s[p].toNat = 10) := by simp; omega
     have ZU : ((s[p].toNat : Int) = 126) = (s[p].toNat = 126) := by simp; omega
     have blank : s[p].toNat = 32 \/ s[p].toNat = 10 -> jj (.pj o) (.box bs 0) (.box bd 0) (.int .i64 (p : Nat)) (.int .u8 s[p].toNat) (.bool true) pI := fun h => by
      refine xd _ _ _ _ _ _ _ ?_
      rw [if_pos h] at gZ
      simp only [bh, cq]
      exact ⟨aZ (by omega) (by omega), _, by omega, f, p + 1, l, rfl, rfl, rfl, rfl, by simp, by omega, by omega, UM, gZ, T, L1, pb, eW, C5, AZ⟩
     have other : ¬ (s[p].toNat = 32 \/ s[p].toNat = 10) -> jj (.pj o) (.box bs 0) (.box bd 0) (.int .i64 (p : Nat)) (.int .u8 s[p].toNat) (.bool false) pI := fun h => by
      refine xd _ _ _ _ _ _ _ ?_
      rw [if_neg h] at gZ
      simp only [aV, aW, ai, aX, ZU]
      have after : ∀ {jb : St} {L2 : eY}, L2 = { L1 with state := .ready, eJ := none } -> L2.st .ready none = L /\ L2.state = .ready /\ L2.eJ = none := fun h => by
       subst h; exact ⟨by rw [<- eW]; rfl, rfl, rfl⟩
      refine ⟨fun GS => ?_, fun GS => ?_⟩
      · rw [if_pos GS] at gZ
        rw [ff T.hs, dX, bG]
        have hdn : ((s.take s.length).drop p) = s[p] :: s.drop (p + 1) := by rw [pv, ve]
        simp only [lO, gB, ij, wp_cond, ai, ej, hdn]
        refine ⟨⟨by omega, by omega, by omega⟩, ?_⟩
        obtain ⟨y, z, Z7⟩ := Nl (s[p] :: s.drop (p + 1)) (by rw [<- ve]; simp; omega)
        refine Z7.go ?_
        have hlen : ((s[p] :: s.drop (p + 1)).takeWhile fun c => c.toNat ≠ 10).length <= s.length - p := by
         rw [<- ve]; exact Nat.le_trans (qM _).length_le (by simp)
        have bQ : 1 <= ((s[p] :: s.drop (p + 1)).takeWhile fun c => c.toNat ≠ 10).length /\ ((s[p] :: s.drop (p + 1)).takeWhile fun c => c.toNat ≠ 10) ≠ [] := by
         rw [nj]; simp [GS]
        generalize ((s[p] :: s.drop (p + 1)).takeWhile fun c => c.toNat ≠ 10) = nt at *
        simp only [bR, List.drop, bG]
        simp only [fY, ye]
        refine Y _ _ _ L1 rfl pb eW ?_
        refine ⟨L1, pb, C5, ?_⟩
        have hnn : ¬ nt = w_ := bQ.2
        simp only [jt, ai, hnn, cm, da, bh]
        refine ⟨_, gd, ?_⟩
        simp only [bu, cU, ai, bV, aV, gT, cq]
        refine ⟨aZ (by omega) (by omega), _, ?_, f, p + nt.length, l, rfl, rfl, rfl, rfl, by simp, by omega, by omega, UM, gZ, (T.oN pb).oN gd, _, gd, ?_⟩
        · omega
        · exact ⟨by rw [<- eW]; rfl, rfl, rfl⟩
      · rw [if_neg GS] at gZ
        simp only [fY, ye]
        refine Y _ _ _ L1 rfl pb eW ?_
        refine ⟨L1, pb, C5, ?_⟩
        have T2 := T.oN (L' := { L1 with state := .busy }) pb
        have L2 : (pI.set o (.loop { L1 with state := .busy })).loop o = some { L1 with state := .busy } := gd
        generalize X3 : pI.set o (.loop { L1 with state := .busy }) = uw at *
        simp only [jt, ai, bS, bV, aV]
        rw [ff T2.h1, dX, bG]
        have hdn : ((s.take s.length).drop p) = s[p] :: s.drop (p + 1) := by rw [pv, ve]
        simp only [lO, gB, ij, wp_cond, ai, ej, hdn]
        refine ⟨⟨by omega, by omega, by omega⟩, ?_⟩
        refine (GJ (s[p] :: s.drop (p + 1)) (by rw [<- ve]; simp; omega)).go ?_
        cases sJ : fE (s[p] :: s.drop (p + 1)) with
        | mk e kt =>
        obtain ⟨k, tx⟩ := kt
        rw [sJ] at gZ
        simp only at gZ
        simp only [HN, bR, List.drop, bG]
        rw [cx]
        intro fL oC
        have g11 : (uw.new fL (.box [AV.int .u8 0, AV.str [], AV.int .i64 0])).box fL = some [AV.int .u8 0, AV.str [], AV.int .i64 0] := aL
        rw [cA g11]
        refine ⟨⟨rfl, rfl, by simp⟩, ?_⟩
        have Sq := ((cJ.refl uw).new oC (x := .box [AV.int .u8 0, AV.str [], AV.int .i64 0])).set (x := .box (aA [AV.int .u8 0, AV.str [], AV.int .i64 0] 0 (ax (.agg [.int .u8 (k : Nat), .str tx, .int .i64 0])))) oC.1
        have m11 : ((uw.new fL (.box [AV.int .u8 0, AV.str [], AV.int .i64 0])).set fL (.box (aA [AV.int .u8 0, AV.str [], AV.int .i64 0] 0 (ax (.agg [.int .u8 (k : Nat), .str tx, .int .i64 0]))))).box fL = some [.int .u8 (k : Nat), .str tx, .int .i64 0] := by rw [aS]; rfl
        have n117 : b7 ≠ fL := oC.bZ (T2.h7.choose_spec.1)
        generalize (uw.new fL (.box [AV.int .u8 0, AV.str [], AV.int .i64 0])).set fL (.box (aA [AV.int .u8 0, AV.str [], AV.int .i64 0] 0 (ax (.agg [.int .u8 (k : Nat), .str tx, .int .i64 0])))) = ux at *
        have T3 := T2.o9 Sq
        have L3 := Sq.loop L2
        have XI : ∀ (b : Nat) (x : List AV), uw.box b = some x -> b ≠ fL := fun b x h => oC.bZ h
        clear Sq g11 oC X3
        intro j hj
        obtain ⟨v, q1, q2, q3⟩ := T3.h7
        have cont : ∀ e' : Int, (e' ≠ 0 -> nZ s = .bad p e') -> (e' = 0 -> l.length < 900 /\ 0 < tx.length /\ lf f s (p + tx.length) (l ++ [⟨k, tx, p⟩]) = nZ s) -> (e' = 0 -> e = 0) -> j (.box b2 0) (.box b3 0) (.box b4 0) (.box b7 0) (.int .i64 (p : Nat)) (.box fL 0) (.int .i64 e') ux := by
         intro e' Z4 XP UC
         refine hj _ _ _ _ _ _ _ _ ?_
         by_cases jC : e' = 0
         · obtain ⟨abr, iy, UQ⟩ := XP jC
           simp only [jC, ct, ai, bS, bV, aV, aU, ck]
           rw [cA m11]
           refine ⟨⟨rfl, rfl, by simp⟩, ?_⟩
           have kp : ∀ {b : Nat} {x : List AV}, b ≠ fL -> ux.box b = some x -> (ux.set fL (.box (aA [.int .u8 (k : Nat), .str tx, .int .i64 0] 2 (ax (.int .i64 (p : Nat)))))).box b = some x := fun h1 h2 => by rw [aN h1]; exact h2
           rw [ff (kp n117 q1), dX, bG]
           rw [rL aS]
           refine ⟨by simp [aA], ?_⟩
           have VE : Grow (ux.set fL (.box (aA [.int .u8 (k : Nat), .str tx, .int .i64 0] 2 (ax (.int .i64 (p : Nat)))))) v 51 3 l.length (gy l) := by
            rcases q2 with q2 | ⟨τ, r1, r2, r3⟩
            · exact .inl q2
            · exact .inr ⟨τ, r1, by rw [jo (fJ m11 r2).symm]; exact r2, r3⟩
           have u1 : ∀ {b : Nat} {x : List AV}, ux.box b = some x -> b ≠ fL -> (ux.set fL (.box (aA [.int .u8 (k : Nat), .str tx, .int .i64 0] 2 (ax (.int .i64 (p : Nat)))))).box b = some x := fun h1 h2 => kp h2 h1
           have Zs : (ux.set fL (.box (aA [.int .u8 (k : Nat), .str tx, .int .i64 0] 2 (ax (.int .i64 (p : Nat)))))).loop o = some { L1 with state := .busy } := by
            rw [eR]; exact L3
            rw [ez, if_neg (bO m11 L3).symm]
           have CM : (List.take 3 (List.drop 0 (aA [.int .u8 (k : Nat), .str tx, .int .i64 0] 2 (ax (.int .i64 (p : Nat)))))) = mP ⟨k, tx, p⟩ := by simp [aA, mP]
           rw [CM]
           generalize ux.set fL (.box (aA [.int .u8 (k : Nat), .str tx, .int .i64 0] 2 (ax (.int .i64 (p : Nat))))) = abt at *
           rw [fO]
           refine ⟨by omega, ?_⟩
           rw [eM (o := 0) (s := 3) rfl]
           refine ⟨⟨rfl, rfl, by simp [bL]⟩, ?_⟩
           rw [gX]
           refine ⟨rfl, ?_⟩
           have Qf := u1 q1 n117
           refine HS (m := 1) (l2 := mP ⟨k, tx, p⟩) VE rfl rfl (by omega) (by omega) (fun h => q3 (qL.1 h)) fun Aw v' g1 g2 g3 => ?_
           obtain ⟨kb, kl⟩ := AO VE g2
           have yP : v'.cS = true /\ ax v' = [v'] := by
            rcases g1 with ⟨_, _, rfl⟩ | ⟨τ, rfl, _, _⟩ <;> exact ⟨rfl, rfl⟩
           rw [cA (kb Qf)]
           refine ⟨⟨yP.1, by rw [yP.2]; rfl, by simp⟩, ?_⟩
           have kk : ∀ {b : Nat} {x : List AV}, b7 ≠ b -> Aw.box b = some x -> (Aw.set b7 (.box (aA [v] 0 (ax v')))).box b = some x := fun h1 h2 => by rw [aN h1.symm]; exact h2
           have lo : (Aw.set b7 (.box (aA [v] 0 (ax v')))).loop o = some { L1 with state := .busy } := by
            rw [eR]; exact kl Zs
            rw [ez, if_neg (bO (kb Qf) (kl Zs)).symm]
           have zI : ∀ {b : Nat} {x : List AV}, uw.box b = some x -> b ≠ fL := fun h => XI _ _ h
           have T5 : TI (Aw.set b7 (.box (aA [v] 0 (ax v')))) b1 b2 b3 b4 b7 bs bd s (l ++ [⟨k, tx, p⟩]) := by
            refine ⟨kk n71 (kb (u1 T3.h1 (zI T2.h1))), ?_, ?_, ?_, ⟨v', by rw [aS, yP.2]; rfl, ?_, fun h => by simp at h⟩, kk n7s (kb (u1 T3.hs (zI T2.hs))), kk n7d (kb (u1 T3.hd (zI T2.hd)))⟩
            · obtain ⟨x, hx⟩ := T2.h2; obtain ⟨y, hy⟩ := T3.h2; exact ⟨y, kk n72 (kb (u1 hy (zI hx)))⟩
            · obtain ⟨x, hx⟩ := T2.h3; obtain ⟨y, hy⟩ := T3.h3; exact ⟨y, kk n73 (kb (u1 hy (zI hx)))⟩
            · obtain ⟨x, hx⟩ := T2.h4; obtain ⟨y, hy⟩ := T3.h4; exact ⟨y, kk n74 (kb (u1 hy (zI hx)))⟩
            · have el : (l ++ [(⟨k, tx, p⟩ : Tk)]).length = l.length + 1 := by simp
              rw [el, xv]
              rcases g1 with ⟨h0, _⟩ | ⟨τ, r1, r2, r3⟩
              · omega
              · exact .inr ⟨τ, r1, by rw [jo (fJ (kb Qf) r2).symm]; exact r2, r3⟩
           have XR : ∃ c, v' = .vec (l.length + 1) c (gy (l ++ [⟨k, tx, p⟩])) := by
            rw [xv]
            rcases g1 with ⟨h0, _⟩ | ⟨τ, r1, _, _⟩
            · omega
            · exact ⟨_, r1⟩
           have PD : (Aw.set b7 (.box (aA [v] 0 (ax v')))).box b7 = some [v'] := by rw [aS, yP.2]; rfl
           generalize Aw.set b7 (.box (aA [v] 0 (ax v'))) = abc at *
           refine ⟨_, lo, ?_⟩
           have T6 := T5.oN (L' := { L1 with state := .ready, eJ := none }) lo
           obtain ⟨c, hc⟩ := XR
           subst hc
           have Z2 : (abc.set o (.loop { L1 with state := .ready, eJ := none })).box b7 = some [.vec (l.length + 1) c (gy (l ++ [⟨k, tx, p⟩]))] := by rw [aN (bO PD lo)]; exact PD
           simp only [bu, cU, ai, bV, aV]
           rw [ff T6.hd, dX, bG]
           simp only [show dB K.P 75 = true by kernel_rfl, if_true, iL, jA, jV]
           refine Rr Z2 rfl UM ?_
           simp only [bu, cq]
           have pC : p + tx.length <= s.length := by
            have := (Ap (s := s[p] :: s.drop (p + 1)) (k := k) (t := tx) (by rw [sJ, UC jC])).2.length_le
            rw [<- ve] at this
            simp at this
            omega
           refine ⟨aZ (by omega) (by omega), _, ?_, f, p + tx.length, l ++ [⟨k, tx, p⟩], rfl, rfl, rfl, rfl, by simp, pC, by omega, by simp; omega, UQ, T6, _, gd, by rw [<- eW]; rfl, rfl, rfl⟩
           omega
         · simp only [jC, ct, ai, cm, da, bh]
           refine Wa T3.h2 T3.h3 T3.h4 FV Dx Bq ⟨rfl, rfl⟩ fun jb m2 m3 m4 mo => ?_
           have ob : ∀ {b : Nat}, (∃ x, ux.box b = some [x]) -> o ≠ b := fun ⟨x, h⟩ => (bO h L3).symm
           have L4 : jb.loop o = some { L1 with state := .busy } := by rw [eR (mo o (ob T3.h2) (ob T3.h3) (ob T3.h4))]; exact L3
           refine ⟨_, L4, ?_⟩
           simp only [bu, cU, ai, da, bh]
           refine aj.mk ⟨_, gd, by simp, ?_⟩
           have kp : ∀ {b : Nat} {x : List AV}, o ≠ b -> jb.box b = some x -> ((jb.set o (.loop { L1 with state := .done, eJ := some .ret })).del o).box b = some x := fun h1 h2 => by rw [fI h1.symm, aN h1.symm]; exact h2
           refine fin _ _ _ _ (kp (ob T3.h2) m2) (kp (ob T3.h3) m3) (kp (ob T3.h4) m4) fun cE => ?_
           rw [Z4 jC]; rfl
        have hlen : bB (some false) v = .val (.int .i64 l.length) := by
         rcases q2 with ⟨h0, _, rfl⟩ | ⟨τ, rfl, _, _⟩
         · rw [h0]; rfl
         · rfl
        simp only [aW, ai, aI, aB]
        by_cases AR : e = 0
        · subst AR
          simp only [bS, dw, bp, lK q1, dX, fB, fT, hlen, aw, aW, az, if_true, ai, aX]
          rw [if_neg (by simp)] at gZ
          refine ⟨fun Z3 => ?_, fun Z3 => ?_⟩
          · rw [if_pos (by omega)] at gZ
            exact cont 5 (fun _ => gZ.symm) (fun h => by omega) (fun h => by omega)
          · rw [if_neg (by omega)] at gZ
            have iy := (Ap sJ).1.1
            exact cont 0 (fun h => absurd rfl h) (fun _ => ⟨by omega, List.length_pos_iff.2 iy, gZ⟩) (fun _ => rfl)
        · simp only [AR, cm, show (false == true) = false from rfl, a8, az, bq, if_false, ai, aV]
          rw [if_pos AR] at gZ
          exact cont e (fun _ => gZ.symm) (fun h => absurd h AR) (fun h => h)
     simp only [aW, ai, aX, c32, c10]
     refine ⟨fun h => ?_, fun h => ?_⟩
     · simp only [h, bS]; rw [h] at blank; exact blank (.inl rfl)
     · by_cases nD : s[p].toNat = 10
       · simp only [nD, bS]; rw [nD] at blank; exact blank (.inr rfl)
       · simp only [nD, cm]; exact other (fun h1 => h1.elim h nD)
   · have hd0 : s.drop p = [] := List.drop_eq_nil_of_le (by omega)
     have UQ : nZ s = .ok l := by
      rw [<- gZ]
      cases f with
      | zero => rfl
      | succ f => simp only [lf]; rw [hd0]
     refine aj.mk ⟨L1, pb, by rw [C5]; simp, ?_⟩
     rw [AZ]
     obtain ⟨v, g1, g2, g3⟩ := T.h7
     have dl : ∀ {b : Nat} {x : List AV}, pI.box b = some x -> (pI.del o).box b = some x := fun h => by rw [fI (bO h pb)]; exact h
     have hv : v.cS = true /\ ax v = [v] := by
      rcases g2 with ⟨_, _, rfl⟩ | ⟨τ, rfl, _, _⟩ <;> exact ⟨rfl, rfl⟩
     show (aq (some (false, 1)) (.box b7 0) (pI.del o)).wp K (pI.del o) _ _
     rw [ff (dl g1), dX, bG]
     refine Wa (T.h2.imp fun _ h => dl h) (T.h3.imp fun _ h => dl h) (T.h4.imp fun _ h => dl h) FV Dx Bq hv fun jb m2 m3 m4 _ => ?_
     refine fin jb _ _ _ m2 m3 m4 fun cE => ?_
     rw [UQ]
     show AV.aQ [resolve 4 cE v, .int .i64 0, .int .i64 0] = _
     rw [DQ 2 g2 g3]
     rfl
 · simp only [he, cm, da, bh]
   rw [if_pos he] at gZ
   refine Wa ⟨_, k2⟩ ⟨_, k3⟩ ⟨_, k4⟩ FV Dx Bq ⟨rfl, rfl⟩ fun dV m2 m3 m4 _ => ?_
   exact fin dV _ _ _ m2 m3 m4 fun jb => by rw [gZ]; rfl
end Go.Rip
