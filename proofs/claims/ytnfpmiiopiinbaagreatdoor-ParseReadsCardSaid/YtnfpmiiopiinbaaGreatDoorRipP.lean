/- Lemmas for the proof: no conditions. -/
import Derived.Test.YtnfpmiiopiinbaaGreatDoorRipZz
import Derived.Test.YtnfpmiiopiinbaaGreatDoorRipN
import Derived.Test.YtnfpmiiopiinbaaGreatDoorRipE
import Derived.Test.YtnfpmiiopiinbaaGreatDoorRipF
set_option linter.unusedVariables false
set_option linter.unusedSimpArgs false
set_option linter.loopingSimpArgs false
namespace Go.Rip
open Go.Proofs Go.RowKit
def cls (c : Int) : Int := if c = 32 \/ c = 10 then 1 else if c < 32 \/ c > 126 then 0 else if 48 <= c /\ c <= 57 then 2 else if 97 <= c /\ c <= 122 then 3 else if 65 <= c /\ c <= 90 then 4 else 5
theorem Fb (c : Int) : Pure K 216 [.int .u8 c] (.int .i64 (cls c)) := by
 intro U R hR
 refine Pg ?_
 simp (contextual := true) only [Pf, oq, ng, aV, bh, iW, eu, fg, aj, aS, aM, iz, bG, bz, aJ, aF, eN, yF, aT, aK, aE, cj, cM, ite_true, ite_false, beq_true, beq_false, cC, dk, ej, if_true, if_false, true_and, and_true, not_true, not_false_iff]
 repeat' (first | refine And.intro ?_ ?_ | intro _)
 all_goals (refine al.eq hR ?_; simp only [cls, AV.int.injEq, true_and])
 all_goals grind
def FV (l : List Int) (s : Int) : Int := match l.findIdx? (· = s) with | some i => i | none => -1
theorem Hs (c : kh) (l : List Int) (s : Int) (hn : l.length <= 100000) : Pure K 246 [.vec l.length c (l.map (.int .i64)), .int .i64 s] (.int .i64 (FV l s)) := by
 intro U R hR
 refine PK ?_
 simp only [PJ, pH, aj]
 refine ⟨fun m v0 v1 v7 v8 af => ∃ i : Nat, m = l.length - i /\ i <= l.length /\ v0 = .vec l.length c (l.map (.int .i64)) /\ v1 = .int .i64 s /\ v7 = .int .i64 l.length /\ v8 = .int .i64 i /\ af = U /\ ∀ j, j < i -> l[j]? ≠ some s, ⟨l.length, 0, by simp [Fn.app]⟩, ?_⟩
 intro m v0 v1 v7 v8 af hI
 obtain ⟨i, rfl, hi, rfl, rfl, rfl, rfl, rfl, fM⟩ := hI
 simp only [bh, aj, aT]
 refine ⟨fun aL => ?_, fun gk => ?_⟩
 · have aL : i < l.length := by omega
   have hd : (l.map (AV.int .i64)).drop (i * 1) = .int .i64 l[i] :: (l.map (AV.int .i64)).drop (i + 1) := by
    rw [Nat.mul_one, gX (by simpa using aL)]; simp
   simp only [xi, wp_cond, aj, dR, hd, tP, dO, aV, aT]
   refine ⟨by omega, fun he => ?_, fun cH => ?_⟩
   · refine al.eq hR ?_
     have : l.findIdx? (· = s) = some i := by
      rw [C1]
      refine ⟨aL, by simp [he], fun j hj => ?_⟩
      have := fM j hj
      rw [jQ (by omega)] at this
      simpa using this
     simp [FV, this]
   · simp only [k9, hM, wp_cond, aj]
     refine ⟨bp (by omega) (by omega), ?_⟩
     refine ⟨l.length - (i + 1), by omega, i + 1, rfl, by omega, rfl, rfl, rfl, by simp, rfl, fun j hj => ?_⟩
     rcases eZ j i with h | h
     · exact fM j h
     · have : j = i := by omega
       subst this
       rw [jQ aL]; simpa using fun h => cH h.symm
 · refine al.eq hR ?_
   have : l.findIdx? (· = s) = none := by
    rw [List.findIdx?_eq_none_iff]
    intro x hx
    obtain ⟨j, hj, rfl⟩ := List.getElem_of_mem hx
    have := fM j (by omega)
    rw [jQ hj] at this
    simpa using this
   simp [FV, this]
theorem Hq (l : List Int) (s : Int) : decide (0 <= FV l s) = decide (s ∈ l) := by
 unfold FV
 split
 · rename_i j hj
   obtain ⟨h1, h2, _⟩ := C1.1 hj
   have : s ∈ l := by have := of_decide_eq_true h2; exact this ▸ qU h1
   simp [this]
 · rename_i hj
   rw [List.findIdx?_eq_none_iff] at hj
   have : s ∉ l := fun hm => by simpa using hj s hm
   simp [this]
theorem wb (c : Int) (cp : kh) (l : List Int) (hn : l.length <= 100000) : Pure K 151 [.int .u8 c, .vec l.length cp (l.map (.int .i64))] (.bool (decide (cls c ∈ l))) := by
 intro U R hR
 refine On ?_
 refine (Fb c).go ?_
 refine Pe ?_
 refine (Hs cp l (cls c) hn).go ?_
 simp only [fg, aj, Hq]
 exact al.mk (al.mk hR)
theorem DN (c : UInt8) : decide (cls c.toNat ∈ [2]) = eD c := by
 unfold cls eD
 rw [nq]
 simp only [nS, ej]
 grind
theorem Ml (c : UInt8) : decide (cls c.toNat ∈ [3]) = kS c := by
 unfold cls kS
 rw [nq]
 simp only [nS, ej]
 grind
theorem Mh (c : UInt8) : decide (cls c.toNat ∈ [2, 3, 4]) = dx c := by
 unfold cls dx eD kS BH
 rw [nq]
 simp only [fC, List.not_mem_nil, or_false, ej, ln]
 grind
theorem Mj (c : UInt8) : (!decide (cls c.toNat ∈ [0])) = mx c := by
 unfold cls mx
 rw [nq]
 simp only [nS, ej, Bool.not_eq_true', decide_eq_false_iff_not]
 grind
theorem Ht (c : UInt8) : Pure K 146 [.int .u8 c.toNat] (.bool (mx c)) := by
 intro U R hR
 refine Of ?_
 unfold Oe
 rw [dE]
 refine ⟨by omega, ?_⟩
 rw [c6 (o := 0) (s := 1) rfl]
 refine ⟨⟨rfl, rfl, by simp [bB]⟩, ?_⟩
 rw [er]
 refine ⟨rfl, ?_⟩
 refine (wb c.toNat .full [0] (by simp)).go ?_
 simp only [cZ, aj, Mj]
 exact al.mk hR
theorem getD_at {s : aZ} {i : Nat} (h : i < s.length) : s.getD i 0 = s[i] := by simp [uC, h]
theorem Qu (s : aZ) : Pure K 74 [.str s] (.aU [.int .i64 (pb s).1, .int .i64 (pb s).2]) := by
 intro U R hR
 refine Sf ?_
 unfold Uh
 simp only [eM, aj, eu, aT]
 unfold pb at hR
 refine ⟨fun h => ?_, fun h => ?_⟩
 · rw [if_pos (by omega)] at hR
   exact al.mk hR
 · rw [if_neg (by omega)] at hR
   refine ⟨fun m v0 v9 v10 af => ∃ i : Nat, m = s.length - i /\ i <= s.length /\ v0 = .str s /\ v9 = .int .i64 s.length /\ v10 = .int .i64 i /\ af = U /\ ∀ j (hj : j < s.length), j < i -> mx s[j] = true, ⟨s.length, 0, by simp [Fn.app]⟩, ?_⟩
   rintro m v0 v9 v10 af ⟨i, rfl, hi, rfl, rfl, rfl, rfl, cq⟩
   simp only [bh, aj, aT]
   refine ⟨fun aL => ?_, fun gk => ?_⟩
   · have aL : i < s.length := by omega
     rw [qv]
     refine ⟨by omega, ?_⟩
     rw [dR, getD_at aL]
     refine (Ht s[i]).go ?_
     simp only [cZ, aj]
     cases hb : mx s[i] with
     | false =>
       simp only [dk, aK]
       have : s.findIdx? (fun c => !mx c) = some i := by
        rw [C1]
        exact ⟨aL, by simp [hb], fun j hj => by simp [cq j (by omega) hj]⟩
       rw [this] at hR
       exact al.mk hR
     | true =>
       simp only [cC, aE, cI]
       refine ⟨bp (by omega) (by omega), s.length - (i + 1), by omega, i + 1, rfl, by omega, rfl, rfl, by simp, rfl, fun j hj tH => ?_⟩
       rcases eZ j i with h | h
       · exact cq j hj h
       · have : j = i := by omega
         subst this; exact hb
   · have : s.findIdx? (fun c => !mx c) = none := by
      rw [List.findIdx?_eq_none_iff]
      intro x hx
      obtain ⟨j, hj, rfl⟩ := List.getElem_of_mem hx
      simp [cq j hj (by omega)]
     rw [this] at hR
     exact al.mk hR
theorem rV {p : UInt8 -> Bool} : ∀ {l : aZ}, (∀ x ∈ l, p x = true) -> l.takeWhile p = l
 | [], _ => rfl
 | c :: l, h => by rw [pn, h c (by simp)]; simp [rV (l := l) fun x hx => h x (by simp [hx])]
theorem run_pure (s : aZ) (hs : s.length <= 100000) : Pure K 149 [.str s] (.int .i64 (s.takeWhile dx).length) := by
 intro U R hR
 refine Ok ?_
 unfold Oj
 refine ⟨fun m v0 v2 af => ∃ i : Nat, m = s.length - i /\ i <= s.length /\ v0 = .str s /\ v2 = .int .i64 i /\ af = U /\ ∀ j (hj : j < s.length), j < i -> dx s[j] = true, ⟨s.length, 0, by simp [Fn.app]⟩, ?_⟩
 rintro m v0 v2 af ⟨i, rfl, hi, rfl, rfl, rfl, cq⟩
 have Ap : (s.take i).takeWhile dx = s.take i := by
  refine rV fun x hx => ?_
  obtain ⟨j, hj, rfl⟩ := List.getElem_of_mem hx
  simp only [List.length_take] at hj
  rw [List.getElem_take]
  exact cq j (by omega) (by omega)
 have xV : s.takeWhile dx = s.take i ++ (s.drop i).takeWhile dx := by
  conv => lhs; rw [<- List.take_append_drop i s]
  rw [List.takeWhile_append, Ap]
  simp
 simp only [eM, aj, bh, aS, aM]
 by_cases aL : i < s.length
 · have jM : (i : Int) < s.length := by omega
   simp only [jM, cj, dN, bG, aJ, sn, eN, dR, getD_at aL]
   refine ⟨by simp, ?_⟩
   rw [ti]
   refine ⟨by omega, ?_⟩
   rw [nR (o := 0) (s := 1) rfl]
   refine ⟨⟨rfl, rfl, by simp [bB]⟩, ?_⟩
   rw [nR (o := 1) (s := 1) rfl]
   refine ⟨⟨rfl, rfl, by simp [bB, az]⟩, ?_⟩
   rw [nR (o := 2) (s := 1) rfl]
   refine ⟨⟨rfl, rfl, by simp [bB, az]⟩, ?_⟩
   rw [vp]
   refine ⟨rfl, _, wb s[i].toNat .full [2, 3, 4] (by simp), ?_⟩
   rw [Mh]
   simp only [aF, if_true, aj]
   have hd : s.drop i = s[i] :: s.drop (i + 1) := gX aL
   cases hb : dx s[i] with
   | true =>
     simp only [aK, cI]
     refine ⟨bp (by omega) (by omega), s.length - (i + 1), by omega, i + 1, rfl, by omega, rfl, by simp, rfl, fun j hj tH => ?_⟩
     rcases eZ j i with h | h
     · exact cq j hj h
     · have : j = i := by omega
       subst this; exact hb
   | false =>
     simp only [aE]
     refine al.eq hR ?_
     rw [xV, hd, pn, hb]
     simp
     omega
 · have jM : ¬ (i : Int) < s.length := by omega
   simp only [jM, cM, show (false == true) = false from rfl, bz, aF, bH, if_false, aj, aE]
   refine al.eq hR ?_
   rw [xV, List.drop_eq_nil_of_le (by omega)]
   simp; omega
end Go.Rip
namespace Go.Rip
open Go.Proofs Go.RowKit
theorem D0 {s : aZ} {i : Nat} (h : i < s.length) : ix 0 (s.take (i + 1)) = min (10 * ix 0 (s.take i) + ((s[i].toNat : Int) - 48)) 1000001 := by
 have : s.take (i + 1) = s.take i ++ [s[i]] := by rw [qS, jQ h]; rfl
 rw [this]
 unfold ix
 rw [List.foldl_append]
 rfl
theorem HB (s : aZ) (hs : s.length <= 100000) : Pure K 152 [.str s] (.int .i64 (ky s)) := by
 intro U R hR
 refine Oq ?_
 unfold Oo
 simp only [eM, aj]
 refine ⟨fun m v0 v3 v6 v7 af => ∃ i : Nat, m = s.length - i /\ i <= s.length /\ v0 = .str s /\ v3 = .int .i64 (ix 0 (s.take i)) /\ v6 = .int .i64 s.length /\ v7 = .int .i64 i /\ af = U /\ (s.take i).all eD = true, ⟨s.length, 0, by simp [Fn.app, ix]⟩, ?_⟩
 rintro m v0 v3 v6 v7 af ⟨i, rfl, hi, rfl, rfl, rfl, rfl, rfl, cq⟩
 have hb := CW (s.take i) 0 (by omega)
 have rD := sC (s.take i) 0 cq (by omega)
 simp only [bh, aj, aT]
 refine ⟨fun aL => ?_, fun gk => ?_⟩
 · have aL : i < s.length := by omega
   rw [qv]
   refine ⟨by omega, ?_⟩
   rw [dR, getD_at aL, dE]
   refine ⟨by omega, ?_⟩
   rw [c6 (o := 0) (s := 1) rfl]
   refine ⟨⟨rfl, rfl, by simp [bB]⟩, ?_⟩
   rw [er]
   refine ⟨rfl, ?_⟩
   refine (wb s[i].toNat .full [2] (by simp)).go ?_
   rw [DN]
   simp only [cZ, aj]
   have fN : s.take (i + 1) = s.take i ++ [s[i]] := by rw [qS, jQ aL]; rfl
   cases hd : eD s[i] with
   | false =>
     simp only [dk, aK]
     refine al.eq hR ?_
     have : s.all eD = false := by
      rw [Bool.eq_false_iff]
      intro h
      rw [eY] at h
      rw [h s[i] (qU aL)] at hd
      cases hd
     simp [ky, this]
   | true =>
     have hc := jW.1 hd
     simp only [cC, aE, KV]
     refine ⟨bp (by omega) (by omega), ?_⟩
     rw [qv]
     refine ⟨by omega, ?_⟩
     rw [dR, getD_at aL]
     have hw : IntKind.u8.wrap ((s[i].toNat : Int) - 48) = (s[i].toNat : Int) - 48 := by
      show ((s[i].toNat : Int) - 48) % 256 = _
      omega
     simp only [jT, Ae, aj, hw, se, wp_cond, cI, IH]
     refine ⟨bp (by omega) (by omega), bp (by omega) (by omega), bp (by omega) (by omega), ?_⟩
     refine ⟨s.length - (i + 1), by omega, i + 1, rfl, by omega, rfl, ?_, rfl, by simp, rfl, ?_⟩
     · rw [D0 aL]
       congr 1
       omega
     · rw [fN, List.all_append, cq]; simp [hd]
 · have hi : i = s.length := by omega
   subst hi
   rw [ql] at cq hb rD ⊢
   have hv : CX s = ix 0 s := rfl
   simp only [eM, aj, eu, aS, aM]
   by_cases h1 : 1 < s.length
   · have Ls : (1 : Int) < s.length := by omega
     simp only [Ls, cj, dN, bG, aJ, sn, eN, aV, aF, if_true, aj, aT]
     have h0 : s.getD (0 : Int).toNat 0 = s[0] := getD_at (by omega)
     rw [h0]
     have hh : s.head? = some s[0] := by
      cases s with
      | nil => simp at h1
      | cons c r => rfl
     refine ⟨⟨by omega, by omega⟩, fun Ds => ?_, fun Ds => ⟨fun hm => ?_, fun hm => ?_⟩⟩
     · refine al.eq hR ?_
       have Xv : s[0].toNat = (48 : UInt8).toNat := by show s[0].toNat = 48; omega
       have : s[0] = 48 := UInt8.toNat_inj.1 Xv
       simp [ky, cq, h1, hh, this]
     · refine al.eq hR ?_
       have : ¬ s[0] = 48 := fun e => Ds (by rw [e]; rfl)
       simp [ky, cq, hh, this, hv, hm]
     · refine al.eq hR ?_
       have : ¬ s[0] = 48 := fun e => Ds (by rw [e]; rfl)
       simp [ky, cq, hh, this, hv, hm]
   · have Ls : ¬ (1 : Int) < s.length := by omega
     simp only [Ls, cM, show (false == true) = false from rfl, bz, aF, bH, if_false, aj, aE, aT]
     refine ⟨fun hm => ?_, fun hm => ?_⟩
     · refine al.eq hR ?_
       simp [ky, cq, h1, hv, hm]
     · refine al.eq hR ?_
       simp [ky, cq, h1, hv, hm]
theorem uX (s p : aZ) : Pure K 213 [.str s, .str p] (.bool (p.isPrefixOf s)) :=
 Pure.Au (vs := [.string ⟨s.toArray⟩, .string ⟨p.toArray⟩]) (v := .bool (p.isPrefixOf s)) (fun g us h => by
  simp only [aN, aB] at h
  obtain ⟨_, _, rfl, rfl, _, _, rfl, rfl, rfl⟩ := h; rfl) (fun g => by simp only [aB]) fun w => Tryz.strings_HasPrefix ⟨s.toArray⟩ ⟨p.toArray⟩ w
theorem wE (s : aZ) : (gL.find? fun x => x.isPrefixOf s) = if cx.isPrefixOf s then some cx else if gy.isPrefixOf s then some gy else match s with
 | [] => none
 | c :: _ => if c ∈ dG then some [c] else none := by
 cases s with
 | nil => rfl
 | cons c r =>
   by_cases h1 : cx.isPrefixOf (c :: r) = true
   · simp only [gL, List.find?_cons, h1, if_true]
   · by_cases h2 : gy.isPrefixOf (c :: r) = true
     · simp only [gL, List.find?_cons, h1, h2, if_true, bH, if_false]
     · simp only [gL, List.find?_cons, h1, h2, bH, if_false]
       have e : ∀ x : UInt8, [x].isPrefixOf (c :: r) = (x == c) := fun x => by simp [List.isPrefixOf]
       simp only [show lJ = [61] from rfl, show sv = [60] from rfl, show sr = [43] from rfl, show su = [45] from rfl, show so = [42] from rfl, show o8 = [33] from rfl, show fR = [40] from rfl, show eF = [41] from rfl, show wM = [123] from rfl, show zn = [125] from rfl, show nB = [44] from rfl, show gE = [59] from rfl, show ja = [58] from rfl, show zm = [46] from rfl, e]
       by_cases hc : c ∈ dG
       · rw [if_pos hc]
         simp only [dG, fC, List.not_mem_nil, or_false] at hc
         rcases hc with rfl | rfl | rfl | rfl | rfl | rfl | rfl | rfl | rfl | rfl | rfl | rfl | rfl | rfl <;> rfl
       · rw [if_neg hc]
         simp only [dG, fC, List.not_mem_nil, or_false, not_or] at hc
         have f : ∀ x : UInt8, ¬ c = x -> (x == c) = false := fun x h => by simp [Ne.symm h]
         simp only [f _ hc.1, f _ hc.2.1, f _ hc.2.2.1, f _ hc.2.2.2.1, f _ hc.2.2.2.2.1, f _ hc.2.2.2.2.2.1, f _ hc.2.2.2.2.2.2.1, f _ hc.2.2.2.2.2.2.2.1, f _ hc.2.2.2.2.2.2.2.2.1, f _ hc.2.2.2.2.2.2.2.2.2.1, f _ hc.2.2.2.2.2.2.2.2.2.2.1, f _ hc.2.2.2.2.2.2.2.2.2.2.2.1, f _ hc.2.2.2.2.2.2.2.2.2.2.2.2.1, f _ hc.2.2.2.2.2.2.2.2.2.2.2.2.2, List.find?_nil]
theorem FX (l : List UInt8) (c : UInt8) : decide (Lib.indexByte l c < 0) = !decide (c ∈ l) := by
 induction l with
 | nil => simp [Lib.indexByte]
 | cons b l ih =>
   have hg := Lib.indexByte_ge l c
   unfold Lib.indexByte
   by_cases h : b = c
   · subst h; simp
   · have hc : ¬ c = b := fun e => h e.symm
     have h' : (b == c) = false := by simp [h]
     rw [h']
     by_cases hm : c ∈ l
     · simp only [hm, cj, cC, decide_eq_false_iff_not] at ih
       have h2 : (Lib.indexByte l c == -1) = false := by simp; omega
       simp [h2, hm]; omega
     · simp only [hm, cM, dk, ej] at ih
       have h2 : (Lib.indexByte l c == -1) = true := by simp; omega
       simp [h2, hm, hc]
def pq (s : aZ) : Int × Nat × aZ := match gL.find? fun x => x.isPrefixOf s with | some x => (0, 4, x) | none => (4, 0, [])
def KM (p : Int × Nat × aZ) : AV := .aU [.agg [.int .u8 p.2.1, .str p.2.2, .int .i64 0], .int .i64 p.1]
theorem P5 (s : aZ) (hs : s.length <= 100000) : Pure K 150 [.str s] (KM (pq s)) := by
 refine Pure.of rfl rfl (fun U => rfl) fun R hR => ?_
 refine Om ?_
 unfold Ol
 rw [du]
 intro b hb
 generalize rZ : (bX _).new b _ = U
 have hY : U.box b = some [AV.int .u8 0, AV.str [], AV.int .i64 0] := by rw [<- rZ]; exact aW
 clear rZ hb
 have SH : ∀ {K' : AV -> St -> Prop} {Kp : AV -> St -> Prop} {z : List AV} {ps : List (Nat × AV)} {U : St}, (bE none (some z) (some (2, 9, 1)) ps).wp K U K' Kp = (fE (fun i => some (i * 1, 1)) ps z fun z => .val (.agg z)).wp K U K' Kp := rfl
 rw [SH, c6 (o := 0) (s := 1) rfl]
 refine ⟨⟨rfl, rfl, by simp⟩, ?_⟩
 rw [c6 (o := 1) (s := 1) rfl]
 refine ⟨⟨rfl, rfl, by simp [az]⟩, ?_⟩
 rw [Vr]
 have fin : ∀ (k : Nat) (x : aZ) (e : Int) (ps : List (Nat × AV)) (af : St), af.box b = some [AV.int .u8 0, AV.str [], AV.int .i64 0] -> pT [(0, 1), (1, 1), (2, 1)] ps [AV.int .u8 0, AV.str [], AV.int .i64 0] = some [.int .u8 k, .str x, .int .i64 0] -> pq s = (e, k, x) ->
  (bE (some [(0, 1), (1, 1), (2, 1)]) (some [AV.int .u8 0, AV.str [], AV.int .i64 0]) none ps).wp K af (fun v U => (aD (some (true, 3)) (.box b 0) v U).wp K U (fun _ U => bL (some (true, 3)) (.box b 0) U fun r0 => al R (.aU [r0, .int .i64 e]) U) (aa R)) (aa R) := by
  intro k x e ps af eA h1 h2
  refine gz _ h1 ?_
  rw [cT eA]
  refine ⟨⟨rfl, rfl, by simp⟩, ?_⟩
  rw [ny bf]
  refine ⟨by simp [az], ?_⟩
  rw [h2] at hR
  exact al.eq (hR _) rfl
 refine ⟨fun m v0 v2 v6 v7 af => ∃ i : Nat, m = 2 - i /\ i <= 2 /\ v0 = .str s /\ v2 = .box b 0 /\ v6 = .agg [.str cx, .str gy] /\ v7 = .int .i64 i /\ af.box b = some [AV.int .u8 0, AV.str [], AV.int .i64 0] /\ (0 < i -> cx.isPrefixOf s = false) /\ (1 < i -> gy.isPrefixOf s = false),
  ⟨2, 0, rfl, by omega, rfl, rfl, rfl, rfl, hY, by simp, by simp⟩, ?_⟩
 rintro m v0 v2 v6 v7 af ⟨i, rfl, hi, rfl, rfl, rfl, rfl, eA, xS, u3⟩
 simp only [bh, aj, aT]
 refine ⟨fun aL => ?_, fun gk => ?_⟩
 · have aL : i < 2 := by omega
   obtain rfl | rfl : i = 0 \/ i = 1 := by omega
   · simp only [dU, wp_cond]
     refine ⟨by omega, ?_⟩
     simp only [show ((0 : Nat) : Int).toNat * 1 = 0 from rfl, List.drop, gP, aj]
     refine (uX s cx).go ?_
     cases hp : cx.isPrefixOf s with
     | true =>
       simp only [aK]
       refine fin 4 cx 0 _ af eA rfl ?_
       simp [pq, wE, hp]
     | false =>
       simp only [aE, cI]
       exact ⟨bp (by omega) (by omega), 1, by omega, 1, rfl, by omega, rfl, rfl, rfl, rfl, eA, fun _ => by first | exact hp | trivial, by simp⟩
   · simp only [dU, wp_cond]
     refine ⟨by omega, ?_⟩
     simp only [show ((1 : Nat) : Int).toNat * 1 = 1 from rfl, List.drop, gP, aj]
     refine (uX s gy).go ?_
     cases hp : gy.isPrefixOf s with
     | true =>
       simp only [aK]
       refine fin 4 gy 0 _ af eA rfl ?_
       simp [pq, wE, hp, xS (by omega)]
     | false =>
       simp only [aE, cI]
       exact ⟨bp (by omega) (by omega), 0, by omega, 2, rfl, by omega, rfl, rfl, rfl, rfl, eA, fun _ => xS (by omega), fun _ => by first | exact hp | trivial⟩
 · have hi2 : i = 2 := by omega
   subst hi2
   have p0 := xS (by omega)
   have p1 := u3 (by omega)
   simp only [iV, aj, aS, aM]
   cases s with
   | nil =>
     simp only [show w_ = ([] : List UInt8) from rfl, cj, show (true == false) = false from rfl, bz, aF, if_true, aj, aK]
     exact fin 0 [] 4 _ af eA rfl rfl
   | cons c r =>
     have cH : ¬ (c :: r = w_) := by simp [show w_ = ([] : List UInt8) from rfl]
     simp only [cH, cM, dN, bG, aJ, sn, eN, aF, bH, if_false, aj]
     refine ⟨by simp, _, va dG c.toNat, ?_⟩
     simp only [bh, aJ, aF, bH, if_false, aj]
     have hcc : ((c.toNat : Int).toNat).toUInt8 = c := by simp
     rw [hcc, FX]
     cases hm : decide (c ∈ dG) with
     | false =>
       have LO : ¬ c ∈ dG := by simpa using hm
       simp only [dk, aK]
       refine fin 0 [] 4 _ af eA rfl ?_
       simp [pq, wE, p0, p1, LO]
     | true =>
       have LO : c ∈ dG := by simpa using hm
       simp only [cC, aE, kV, iY, jU, wp_cond, aj]
       refine ⟨⟨by omega, by omega, by simp; omega⟩, ?_⟩
       refine fin 4 [c] 0 _ af eA rfl ?_
       simp [pq, wE, p0, p1, LO]
end Go.Rip
namespace Go.Rip
open Go.Proofs Go.RowKit
theorem F8 (s : aZ) : ∀ l : List aZ, p8 .s (.str s) (.bool false) false (l.map .str) (l.map fun _ => .bool true) = .val (.bool (decide (s ∈ l)))
 | [] => by simp [p8]
 | x :: l => by
   simp only [et, p8, iw]
   by_cases h : s = x
   · subst h; simp
   · rw [show (s == x) = false by simp [h]]
     have := F8 s l
     simp only [bH, if_false, this]
     simp [h]
theorem Qh : Cl = .fS (kr.map .str) (kr.map fun _ => .bool true) := rfl
theorem KW (s : aZ) (U : St) : iB (some (.s, 4)) (some (AV.bool false)) Cl (.str s) false U = .val (.bool (decide (s ∈ kr))) := by
 rw [Qh]
 simp only [iB, mq, p6]
 exact F8 s kr
theorem JE (s : aZ) (hs : s.length <= 100000) : Pure K 77 [.str s] (KM (gx s)) := by
 refine Pure.of rfl rfl (fun U => rfl) fun R hR => ?_
 refine Si ?_
 unfold Uk
 rw [du]
 intro b hb
 generalize rZ : (bX _).new b _ = U
 have hY : U.box b = some [AV.int .u8 0, AV.str [], AV.int .i64 0] := by rw [<- rZ]; exact aW
 clear rZ hb
 refine (run_pure s hs).go ?_
 have Ap : s.take (s.takeWhile dx).length = s.takeWhile dx := by
  have := rT dx (l := s)
  exact (List.prefix_iff_eq_take.1 this).symm
 have hle : (s.takeWhile dx).length <= s.length := (rT dx).length_le
 simp only [kV, iY, jU, wp_cond, aj, dR, Ap, show (0 : Int).toNat = 0 from rfl, eR, iV, aT]
 refine ⟨⟨by omega, by omega, by omega⟩, fun h0 => ?_, fun h0 => ?_⟩
 · have h0 : s.takeWhile dx = [] := h0
   refine (P5 s hs).go ?_
   simp only [KM, bC, List.drop, bq]
   rw [cT hY]
   refine ⟨⟨rfl, rfl, by simp⟩, ?_⟩
   rw [ny bf]
   refine ⟨by simp [az], al.eq (hR _) ?_⟩
   have : gx s = pq s := by unfold gx pq; rw [h0]; rfl
   rw [this]; rfl
 · cases hw : s.takeWhile dx with
   | nil => exact absurd hw h0
   | cons c r =>
     have hlw : (c :: r).length <= s.length := by rw [<- hw]; exact hle
     have ht : gx s = if eD c then (ky (c :: r), 2, c :: r) else if kS c = false then (4, 0, []) else if (c :: r) ∈ kr then (0, 3, c :: r) else if 12 < (c :: r).length then (4, 0, []) else (0, 1, c :: r) := by
      unfold gx; rw [hw]
     have fin : ∀ (k : Nat) (x : aZ) (e : Int) (zs : List AV) (af : St), zs = [.int .u8 k, .str x, .int .i64 0] -> af.box b = some [AV.int .u8 0, AV.str [], AV.int .i64 0] -> gx s = (e, k, x) ->
      (aD (some (true, 3)) (.box b 0) (.agg zs) af).wp K af (fun _ U => bL (some (true, 3)) (.box b 0) U fun r0 => al R (.aU [r0, .int .i64 e]) U) (aa R) := by
      intro k x e zs af hz eA h2
      subst hz
      rw [cT eA]
      refine ⟨⟨rfl, rfl, by simp⟩, ?_⟩
      rw [ny bf]
      refine ⟨by simp [az], ?_⟩
      rw [h2] at hR
      exact al.eq (hR _) rfl
     have one : ∀ (cl : Int) (K' : AV -> St -> Prop) (af : St), K' (.bool (decide (cls c.toNat ∈ [cl]))) af ->
      (dU true none none (.str (c :: r)) (.int .i64 0)).wp K af (fun ck U => (aA (some (178, 1)) (some [AV.int .i64 0]) 1 false [(0, (AV.int .i64 cl))]).wp K U (fun cn U => ad K 151 [ck, cn] U (ai K' (aa R))) (aa R)) (aa R) := by
      intro cl K' af h
      rw [qv]
      refine ⟨⟨by omega, by simp⟩, ?_⟩
      rw [dE]
      refine ⟨by omega, ?_⟩
      rw [c6 (o := 0) (s := 1) rfl]
      refine ⟨⟨rfl, rfl, by simp [bB]⟩, ?_⟩
      rw [er]
      refine ⟨rfl, ?_⟩
      exact (wb c.toNat .full [cl] (by simp)).go h
     refine one 2 _ _ ?_
     rw [DN]
     cases hd : eD c with
     | true =>
       simp only [aK]
       refine gz [.int .u8 2, .str (c :: r), .int .i64 0] rfl ?_
       refine (HB (c :: r) (by omega)).go ?_
       exact fin 2 (c :: r) _ _ _ rfl hY (by rw [ht, if_pos hd])
     | false =>
       simp only [aE]
       refine one 3 _ _ ?_
       rw [Ml]
       simp only [cZ, aj]
       have pC : ¬ (eD c = true) := by rw [hd]; simp
       cases iN : kS c with
       | false =>
         simp only [dk, aK]
         refine gz [.int .u8 0, .str [], .int .i64 0] rfl ?_
         exact fin 0 [] _ _ _ rfl hY (by rw [ht, if_neg pC, if_pos iN])
       | true =>
         have dT : ¬ (kS c = false) := by rw [iN]; simp
         simp only [cC, aE]
         refine Cn.go ?_
         simp only [KW, aj, aT, eM, eu]
         refine ⟨fun hk => ?_, fun hk => ⟨fun hl => ?_, fun hl => ?_⟩⟩
         · refine gz [.int .u8 3, .str (c :: r), .int .i64 0] rfl ?_
           exact fin 3 (c :: r) _ _ _ rfl hY (by rw [ht, if_neg pC, if_neg dT, if_pos hk])
         · refine gz [.int .u8 0, .str [], .int .i64 0] rfl ?_
           exact fin 0 [] _ _ _ rfl hY (by rw [ht, if_neg pC, if_neg dT, if_neg hk, if_pos (by omega)])
         · refine gz [.int .u8 1, .str (c :: r), .int .i64 0] rfl ?_
           exact fin 1 (c :: r) _ _ _ rfl hY (by rw [ht, if_neg pC, if_neg dT, if_neg hk, if_neg (by omega)])
end Go.Rip
namespace Go.Rip
open Go.Proofs Go.RowKit
theorem B3 (u : aZ) : (Lib.indexByte u 10 = -1 /\ u.takeWhile (fun c => c.toNat ≠ 10) = u) \/ ∃ k : Nat, Lib.indexByte u 10 = k /\ k < u.length /\ u.takeWhile (fun c => c.toNat ≠ 10) = u.take k := by
 have lA : ∀ c : UInt8, c.toNat = 10 ↔ c = 10 := fun c => ⟨fun h => UInt8.toNat_inj.1 h, fun h => by rw [h]; rfl⟩
 induction u with
 | nil => left; exact ⟨rfl, rfl⟩
 | cons b u ih =>
   unfold Lib.indexByte
   by_cases hb : b = 10
   · right
     refine ⟨0, by simp [hb], by simp, ?_⟩
     rw [pn]
     simp [(lA b).2 hb]
   · have eA : (b == 10) = false := by simp [hb]
     have hn : (decide (b.toNat ≠ 10)) = true := by simp [lA, hb]
     rw [pn, hn]
     rcases ih with ⟨h1, h2⟩ | ⟨k, h1, h2, h3⟩
     · left; rw [h1, h2]; simp [eA]
     · right
       refine ⟨k + 1, ?_, by simp; omega, ?_⟩
       · rw [h1, eA]
         have : ((k : Int) == -1) = false := by simp
         simp [this]
       · simp only [if_true, List.take_succ_cons, h3]
theorem Qv (u : aZ) (hu : u.length <= 100000) : ∃ y z, Pure K 148 [.str u, .str Ca] (.aU [.str (u.takeWhile fun c => c.toNat ≠ 10), y, z]) := by
 have go : ∀ x y z, Pure K 212 [.str u, .str Ca] (.aU [x, y, z]) -> Pure K 148 [.str u, .str Ca] (.aU [x, y, z]) := fun x y z h U R hR => by
  refine Oi ?_
  refine h.go ?_
  simp only [bC, List.drop, bq]
  exact al.mk hR
 have hi := vb u 10
 rcases B3 u with ⟨h1, h2⟩ | ⟨k, h1, h2, h3⟩
 · refine ⟨_, _, go _ (.str w_) (.bool false) fun U R hR => ?_⟩
   refine Ec ?_
   refine hi.go ?_
   rw [h1]
   simp only [fg, aj, show decide ((0 : Int) <= -1) = false from rfl, aE]
   rw [h2] at hR
   exact al.mk hR
 · refine ⟨_, _, go _ (.str (u.drop (k + 1))) (.bool true) fun U R hR => ?_⟩
   refine Ec ?_
   refine hi.go ?_
   rw [h1]
   have h0 : decide ((0 : Int) <= (k : Nat)) = true := by simp
   simp only [fg, aj, h0, aK, kV, iY, jU, jX, aJ, eM, zc, show (Ca : List UInt8).length = 1 from rfl, dR]
   refine ⟨⟨by omega, by omega, by omega⟩, bp (by omega) (by omega), ⟨by omega, by omega, by omega⟩, ?_⟩
   rw [h3] at hR
   refine al.eq hR ?_
   have e1 : ((k : Int) + ((1 : Nat) : Int)).toNat = k + 1 := by omega
   simp [e1]
theorem UG {U : St} {R : cS -> St -> Prop} {b n : Nat} {c : kh} {l : List Tk} {t : Tk} {a : AV} (hb : U.box b = some [.vec n c (ib (l ++ [t]))]) (hn : n = l.length + 1) (hl : l.length <= 900) (h : R (.ret (.int .i64 t.s.length)) U) : ad K 75 [a, .box b 0] U R := by
 refine Sg ?_
 subst hn
 unfold Ui
 simp only [eG hb, List.drop, bq, pH, aj, Us]
 refine ⟨bp (by omega) (by omega), ?_⟩
 rw [uM]
 refine ⟨by omega, ?_⟩
 have e : (((l.length + 1 : Nat) : Int) - 1).toNat = l.length := by omega
 rw [e]
 obtain ⟨r, hr⟩ := pO (L := l ++ [t]) (i := l.length) (t := t) (by simp)
 rw [hr]
 simp only [eH, aj, jo, nT, List.drop, mR, bq, eM]
 exact al.mk h
def pr (l : List Tk) : AV := if l = [] then .ak else .vec l.length .gC (ib l)
theorem uG (l l' : List Tk) : ib (l ++ l') = ib l ++ ib l' := by simp [ib]
structure TI (U : St) (b1 b2 b3 b4 b7 bs bd : Nat) (s : aZ) (l : List Tk) : Prop where
 h1 : U.box b1 = some [.str s]
 h2 : ∃ x, U.box b2 = some [x]
 h3 : ∃ x, U.box b3 = some [x]
 h4 : ∃ x, U.box b4 = some [x]
 h7 : ∃ v, U.box b7 = some [v] /\ Grow U v 51 3 l.length (ib l) /\ (l = [] -> v = .ak)
 hs : U.box bs = some [.str s]
 hd : U.box bd = some [.func (.func 75) [] [.box b7 0]]
theorem lZ {U af : St} {b : Nat} (h : af.live b = U.live b) : af.loop b = U.loop b := by simp [St.loop, h]
theorem ij {U : St} {b : Nat} {L : gN} : (U.set b (.loop L)).loop b = some L := by simp [St.loop, gV]
theorem zN {U : St} {b : Nat} {L : gN} : (U.new b (.loop L)).loop b = some L := by simp [St.loop, pe]
theorem fX {U : St} {b b' : Nat} {l : List AV} {L : gN} (h : U.box b = some l) (k : U.loop b' = some L) : b ≠ b' := by
 rintro rfl
 unfold St.box at h; unfold St.loop at k
 split at k
 · rename_i e; simp [e] at h
 · cases k
theorem zV {U : St} {b b' : Nat} {l : Tok} {L : gN} (h : U.tok b = some l) (k : U.loop b' = some L) : b ≠ b' := by
 rintro rfl
 unfold St.tok at h; unfold St.loop at k
 split at k
 · rename_i e; simp [e] at h
 · cases k
theorem TI.qV {U : St} {b1 b2 b3 b4 b7 bs bd o : Nat} {s : aZ} {l : List Tk} (T : TI U b1 b2 b3 b4 b7 bs bd s l) {L L' : gN} (hL : U.loop o = some L) : TI (U.set o (.loop L')) b1 b2 b3 b4 b7 bs bd s l := by
 have k : ∀ {b : Nat} {x : List AV}, U.box b = some x -> (U.set o (.loop L')).box b = some x := fun h => by rw [bK (fX h hL)]; exact h
 obtain ⟨v, g1, g2, g3⟩ := T.h7
 refine ⟨k T.h1, T.h2.imp fun _ h => k h, T.h3.imp fun _ h => k h, T.h4.imp fun _ h => k h, ⟨v, k g1, ?_, g3⟩, k T.hs, k T.hd⟩
 rcases g2 with g2 | ⟨τ, e, ht, hl⟩
 · exact .inl g2
 · exact .inr ⟨τ, e, by rw [qs (zV ht hL)]; exact ht, hl⟩
theorem TI.sO {U af : St} {b1 b2 b3 b4 b7 bs bd : Nat} {s : aZ} {l : List Tk} (T : TI U b1 b2 b3 b4 b7 bs bd s l) (e : dr U af) : TI af b1 b2 b3 b4 b7 bs bd s l := by
 obtain ⟨v, g1, g2, g3⟩ := T.h7
 refine ⟨e.bU T.h1, T.h2.imp fun _ h => e.bU h, T.h3.imp fun _ h => e.bU h, T.h4.imp fun _ h => e.bU h, ⟨v, e.bU g1, ?_, g3⟩, e.bU T.hs, e.bU T.hd⟩
 rcases g2 with g2 | ⟨τ, e1, ht, hl⟩
 · exact .inl g2
 · exact .inr ⟨τ, e1, e.tok ht, hl⟩
theorem Pure.IQ {f : Nat} {args : List AV} {x : AV} (hargs : cL args = true) (hx : closed x = true)
 (h : ∀ R : cS -> St -> Prop, (∀ v af, resolve 5 af v = x -> R (.ret v) af) -> ad K f args (bX ⟨.e, 0⟩) R) : Pure K f args x :=
 Pure.za zA hargs hx 5 (h _ fun v af e => ⟨v, rfl, e⟩)
theorem HI (n : Nat) (U : St) (l : List Tk) : (ib l).map (resolve (n + 1) U) = ib l := by
 induction l with
 | nil => rfl
 | cons t l ih =>
   show ((jo t ++ ib l).map (resolve (n + 1) U)) = jo t ++ ib l
   rw [List.map_append, ih]; rfl
theorem Jy (l : List Tk) : cL (ib l) = true := by
 induction l with
 | nil => rfl
 | cons t l ih => show cL (jo t ++ ib l) = true; simp [jo, cL, closed, ih]
theorem zu (l : List Tk) : closed (pr l) = true := by
 unfold pr; split
 · rfl
 · exact Jy l
theorem yz {U af : St} {v : AV} {l : List Tk} (n : Nat) (h : Grow U v 51 3 l.length (ib l)) (h0 : l = [] -> v = .ak) : resolve (n + 2) af v = pr l := by
 unfold pr
 split
 · rename_i e; rw [h0 e]; rfl
 · rename_i e
   rcases h with ⟨h1, _, _⟩ | ⟨τ, rfl, _, _⟩
   · exact absurd (tk.1 h1) e
   · show AV.vec l.length .gC ((ib l).map (resolve (n + 1) af)) = _
     rw [HI]
def nY : EM -> AV
 | .ok l => .aU [pr l, .int .i64 0, .int .i64 0]
 | .bad p e => .aU [.ak, .int .i64 p, .int .i64 e]
theorem dr.loop {U af : St} {b : Nat} {L : gN} (h : dr U af) (k : U.loop b = some L) : af.loop b = some L := by
 cases e : U.live b with
 | none => simp [St.loop, e] at k
 | some x => rw [lZ ((h b x e).trans e.symm)]; exact k
theorem kQ {U af : St} {v : AV} {e sz n : Nat} {l : List AV} (g : Grow U v e sz n l) (e1 : ∀ b x, (∀ n l, v ≠ .vec n (.own b) l) -> U.live b = some x -> af.live b = some x) :
 (∀ {b : Nat} {x : List AV}, U.box b = some x -> af.box b = some x) /\ (∀ {b : Nat} {L : gN}, U.loop b = some L -> af.loop b = some L) := by
 refine ⟨fun {b x} h => ?_, fun {b L} h => ?_⟩
 · cases e : U.live b with
   | none => exact absurd e (dJ h)
   | some y =>
     have := e1 b y (fun n' l' hv => by
      rcases g with ⟨_, _, g⟩ | ⟨τ, g, ht, _⟩
      · rw [g] at hv; cases hv
      · rw [g] at hv; cases hv; exact iu h ht rfl) e
     rw [fh (this.trans e.symm)]; exact h
 · cases e : U.live b with
   | none => simp [St.loop, e] at h
   | some y =>
     have := e1 b y (fun n' l' hv => by
      rcases g with ⟨_, _, g⟩ | ⟨τ, g, ht, _⟩
      · rw [g] at hv; cases hv
      · rw [g] at hv; cases hv; exact zV ht h rfl) e
     rw [lZ (this.trans e.symm)]; exact h
theorem Zu {U : St} {b2 b3 b4 : Nat} {lv : AV} {p e : Int} {K' : AV -> St -> Prop} {Kp : AV -> St -> Prop} (h2 : ∃ x, U.box b2 = some [x]) (h3 : ∃ x, U.box b3 = some [x]) (h4 : ∃ x, U.box b4 = some [x]) (IJ : b2 ≠ b3) (IK : b2 ≠ b4) (IL : b3 ≠ b4) (hl : lv.cN = true /\ aC lv = [lv])
 (h : ∀ gY, gY.box b2 = some [lv] -> gY.box b3 = some [.int .i64 p] -> gY.box b4 = some [.int .i64 e] -> (∀ b, b ≠ b2 -> b ≠ b3 -> b ≠ b4 -> gY.live b = U.live b) -> K' (.aU []) gY) :
 (aD (some (false, 1)) (.box b2 0) lv U).wp K U (fun _ U => (aD (some (false, 1)) (.box b3 0) (.int .i64 p) U).wp K U (fun _ U => (aD (some (false, 1)) (.box b4 0) (.int .i64 e) U).wp K U K' Kp) Kp) Kp := by
 obtain ⟨x2, h2⟩ := h2
 obtain ⟨x3, h3⟩ := h3
 obtain ⟨x4, h4⟩ := h4
 rw [cT h2]
 refine ⟨⟨hl.1, by rw [hl.2]; rfl, by simp⟩, ?_⟩
 rw [cT (show (U.set b2 _).box b3 = some [x3] by rw [bK IJ.symm]; exact h3)]
 refine ⟨⟨rfl, rfl, by simp⟩, ?_⟩
 rw [cT (show ((U.set b2 _).set b3 _).box b4 = some [x4] by rw [bK IL.symm, bK IK.symm]; exact h4)]
 refine ⟨⟨rfl, rfl, by simp⟩, h _ ?_ ?_ ?_ fun b m2 m3 m4 => ?_⟩
 · rw [bK IK, bK IJ, bf, hl.2]; rfl
 · rw [bK IL, bf]; rfl
 · rw [bf]; rfl
 · rw [gV, if_neg m4, gV, if_neg m3, gV, if_neg m2]
theorem HN (s : aZ) (hs : s.length <= 3000) : Pure K 33 [.str s] (nY (jf s)) := by
 refine Pure.IQ rfl (by cases jf s with | ok l => simp [nY, closed, cL, zu] | bad p e => rfl) fun R hR => ?_
 refine RZ ?_
 unfold TV
 rw [jR rfl]
 intro b1 hY
 rw [du]
 intro b2 gA
 rw [du]
 intro b3 lB
 rw [du]
 intro b4 wW
 have n12 : b1 ≠ b2 := gA.da aW
 have g1 := aW (U := bX ⟨.e, 0⟩) (b := b1) (l := aC (.str s))
 generalize Q8 : (bX _).new b1 _ = bP at *
 have g1' := (cE gA (x := .box [.ak])).bU g1
 have g2 := aW (U := bP) (b := b2) (l := [.ak])
 generalize Q9 : bP.new b2 _ = bI at *
 have XD := (cE lB (x := .box [.int .i64 0])).bU g1'
 have XE := (cE lB (x := .box [.int .i64 0])).bU g2
 have g3 := aW (U := bI) (b := b3) (l := [.int .i64 0])
 have IJ : b2 ≠ b3 := lB.da g2
 generalize ab9 : bI.new b3 _ = bQ at *
 have k1 := (cE wW (x := .box [.int .i64 0])).bU XD
 have k2 := (cE wW (x := .box [.int .i64 0])).bU XE
 have k3 := (cE wW (x := .box [.int .i64 0])).bU g3
 have k4 := aW (U := bQ) (b := b4) (l := [.int .i64 0])
 have IK : b2 ≠ b4 := wW.da XE
 have IL : b3 ≠ b4 := wW.da g3
 generalize FU : bQ.new b4 _ = cz at *
 clear Q8 Q9 ab9 FU g1 g1' XD g2 XE g3 hY gA lB wW
 replace k1 : cz.box b1 = some [.str s] := k1
 have fin : ∀ (af : St) (lv : AV) (p e : Int), af.box b2 = some [lv] -> af.box b3 = some [.int .i64 p] -> af.box b4 = some [.int .i64 e] -> (∀ gY, resolve 5 gY (.aU [lv, .int .i64 p, .int .i64 e]) = nY (jf s)) ->
  bL (some (false, 1)) (.box b2 0) af fun r0 => bL (some (false, 1)) (.box b3 0) af fun r1 => bL (some (false, 1)) (.box b4 0) af fun r2 => al R (.aU [r0, r1, r2]) af := by
  intro af lv p e m2 m3 m4 hres
  rw [RI m2 (eR), RI m3 (eR), RI m4 (eR)]
  exact al.mk (hR _ _ (hres _))
 simp only [eG k1, Di, List.drop, bq]
 refine (Qu s).go ?_
 simp only [bC, List.drop, bq, cg, aj]
 have dQ : jf s = if (pb s).2 ≠ 0 then .bad (pb s).1 (pb s).2 else je s.length s 0 [] := rfl
 by_cases he : (pb s).2 = 0
 · simp only [he, cj, cC, aE]
   rw [if_neg (by simp [he])] at dQ
   rw [du]
   intro b7 Ic
   have n71 := (Ic.da k1).symm
   have n72 := (Ic.da k2).symm
   have n73 := (Ic.da k3).symm
   have n74 := (Ic.da k4).symm
   have e5 := cE Ic (x := .box [.ak])
   have m7 := aW (U := cz) (b := b7) (l := [.ak])
   generalize aca : cz.new b7 _ = dm at *
   rw [eG (e5.bU k1), eR, bq]
   refine Sh ?_
   unfold Uj
   rw [jR rfl]
   intro bs XT
   have n7s := XT.da m7
   have e6 := cE XT (x := .box (aC (.str s)))
   have ms := aW (U := dm) (b := bs) (l := aC (.str s))
   generalize acb : dm.new bs _ = gM at *
   rw [jR rfl]
   intro bd XS
   have n7d := XS.da (e6.bU m7)
   have e7 := cE XS (x := .box (aC (.func (.func 75) [] [.box b7 0])))
   have md := aW (U := gM) (b := bd) (l := aC (.func (.func 75) [] [.box b7 0]))
   generalize acd : gM.new bd _ = mT at *
   refine al.mk ?_
   refine ⟨by kernel_rfl, fun o L ho Ly XO Y => ?_⟩
   have Lk := e5.trans (e6.trans e7)
   have T7 : TI mT b1 b2 b3 b4 b7 bs bd s [] := ⟨Lk.bU k1, ⟨_, Lk.bU k2⟩, ⟨_, Lk.bU k3⟩, ⟨_, Lk.bU k4⟩, ⟨_, (e6.trans e7).bU m7, .inl ⟨rfl, rfl, rfl⟩, fun _ => rfl⟩, e7.bU ms, md⟩
   have T8 := T7.sO (cE ho (x := .loop L))
   have L8 := zN (U := mT) (b := o) (L := L)
   generalize ace : mT.new o _ = ue at *
   clear aca acb acd ace T7 Lk e5 e6 e7 m7 ms md ho XS XT Ic k1 k2 k3 k4
   refine Oh ?_
   unfold Og
   refine ⟨fun m v0 v1 v2 v4 af => ∃ f p l, m = s.length - p /\ v0 = .rO o /\ v1 = .box bs 0 /\ v2 = .box bd 0 /\ v4 = .int .i64 (p : Nat) /\ p <= s.length /\ s.length - p <= f /\ l.length <= 900 /\ je f s p l = jf s /\ TI af b1 b2 b3 b4 b7 bs bd s l /\ ∃ L1, af.loop o = some L1 /\ L1.st .ready none = L /\ L1.state = .ready /\ L1.fH = none,
    ⟨_, s.length, 0, [], rfl, rfl, rfl, rfl, rfl, by omega, by omega, by simp, dQ.symm, T8, L, L8, by cases L; simp_all [gN.st], Ly, XO⟩, ?_⟩
   clear T8 L8 dQ he
   rintro m v0 v1 v2 v4 tu ⟨f, p, l, rfl, rfl, rfl, rfl, rfl, hp, hf, Im, dQ, T, L1, rC, fN, FJ, DD⟩
   rw [eG T.hs, eR, bq]
   simp only [eM, aj, bh, aT]
   refine ⟨fun aL => ?_, fun gk => ?_⟩
   · have aL : p < s.length := by omega
     have rX : s.drop p = s[p] :: s.drop (p + 1) := gX aL
     cases f with
     | zero => omega
     | succ f =>
     simp only [je] at dQ
     rw [rX] at dQ
     simp only at dQ
     rw [eG T.hs, eR, bq, qv]
     refine ⟨by omega, ?_⟩
     rw [dR, getD_at aL]
     intro jj sU
     have c32 : ((s[p].toNat : Int) = 32) = (s[p].toNat = 32) := by simp; omega
     have c10 : ((s[p].toNat : Int) = 10) = (s[p].toNat = 10) := by simp; omega
     have abD : ((s[p].toNat : Int) = 126) = (s[p].toNat = 126) := by simp; omega
     have blank : s[p].toNat = 32 \/ s[p].toNat = 10 -> jj (.rO o) (.box bs 0) (.box bd 0) (.int .i64 (p : Nat)) (.int .u8 s[p].toNat) (.bool true) tu := fun h => by
      refine sU _ _ _ _ _ _ _ ?_
      rw [if_pos h] at dQ
      simp only [aK, cI]
      exact ⟨bp (by omega) (by omega), _, by omega, f, p + 1, l, rfl, rfl, rfl, rfl, by simp, by omega, by omega, Im, dQ, T, L1, rC, fN, FJ, DD⟩
     have other : ¬ (s[p].toNat = 32 \/ s[p].toNat = 10) -> jj (.rO o) (.box bs 0) (.box bd 0) (.int .i64 (p : Nat)) (.int .u8 s[p].toNat) (.bool false) tu := fun h => by
      refine sU _ _ _ _ _ _ _ ?_
      rw [if_neg h] at dQ
      simp only [aE, aV, aj, aT, abD]
      have after : ∀ {gY : St} {L2 : gN}, L2 = { L1 with state := .ready, fH := none } -> L2.st .ready none = L /\ L2.state = .ready /\ L2.fH = none := fun h => by
       subst h; exact ⟨by rw [<- fN]; rfl, rfl, rfl⟩
      refine ⟨fun CH => ?_, fun CH => ?_⟩
      · rw [if_pos CH] at dQ
        rw [eG T.hs, eR, bq]
        have hdn : ((s.take s.length).drop p) = s[p] :: s.drop (p + 1) := by rw [ql, rX]
        simp only [kV, iY, jU, wp_cond, aj, dR, hdn]
        refine ⟨⟨by omega, by omega, by omega⟩, ?_⟩
        obtain ⟨y, z, abM⟩ := Qv (s[p] :: s.drop (p + 1)) (by rw [<- rX]; simp; omega)
        refine abM.go ?_
        have hlen : ((s[p] :: s.drop (p + 1)).takeWhile fun c => c.toNat ≠ 10).length <= s.length - p := by
         rw [<- rX]; exact Nat.le_trans (rT _).length_le (by simp)
        have cH : 1 <= ((s[p] :: s.drop (p + 1)).takeWhile fun c => c.toNat ≠ 10).length /\ ((s[p] :: s.drop (p + 1)).takeWhile fun c => c.toNat ≠ 10) ≠ [] := by
         rw [pn]; simp [CH]
        generalize ((s[p] :: s.drop (p + 1)).takeWhile fun c => c.toNat ≠ 10) = nt at *
        simp only [bC, List.drop, bq]
        simp only [lz, AP]
        refine Y _ _ _ L1 rfl rC fN ?_
        refine ⟨L1, rC, FJ, ?_⟩
        have hnn : ¬ nt = w_ := cH.2
        simp only [iX, aj, hnn, cM, dk, aK]
        refine ⟨_, ij, ?_⟩
        simp only [bg, cZ, aj, cC, aE, eM, cI]
        refine ⟨bp (by omega) (by omega), _, ?_, f, p + nt.length, l, rfl, rfl, rfl, rfl, by simp, by omega, by omega, Im, dQ, (T.qV rC).qV ij, _, ij, ?_⟩
        · omega
        · exact ⟨by rw [<- fN]; rfl, rfl, rfl⟩
      · rw [if_neg CH] at dQ
        simp only [lz, AP]
        refine Y _ _ _ L1 rfl rC fN ?_
        refine ⟨L1, rC, FJ, ?_⟩
        have T2 := T.qV (L' := { L1 with state := .busy }) rC
        have L2 : (tu.set o (.loop { L1 with state := .busy })).loop o = some { L1 with state := .busy } := ij
        generalize aa0 : tu.set o (.loop { L1 with state := .busy }) = qx at *
        simp only [iX, aj, cj, cC, aE]
        rw [eG T2.h1, eR, bq]
        have hdn : ((s.take s.length).drop p) = s[p] :: s.drop (p + 1) := by rw [ql, rX]
        simp only [kV, iY, jU, wp_cond, aj, dR, hdn]
        refine ⟨⟨by omega, by omega, by omega⟩, ?_⟩
        refine (JE (s[p] :: s.drop (p + 1)) (by rw [<- rX]; simp; omega)).go ?_
        cases nK : gx (s[p] :: s.drop (p + 1)) with
        | mk e kt =>
        obtain ⟨k, tx⟩ := kt
        rw [nK] at dQ
        simp only at dQ
        simp only [KM, bC, List.drop, bq]
        rw [du]
        intro qy Fv
        have g11 : (qx.new qy (.box [AV.int .u8 0, AV.str [], AV.int .i64 0])).box qy = some [AV.int .u8 0, AV.str [], AV.int .i64 0] := aW
        rw [cT g11]
        refine ⟨⟨rfl, rfl, by simp⟩, ?_⟩
        have Vx := ((dr.refl qx).new Fv (x := .box [AV.int .u8 0, AV.str [], AV.int .i64 0])).set (x := .box (az [AV.int .u8 0, AV.str [], AV.int .i64 0] 0 (aC (.agg [.int .u8 (k : Nat), .str tx, .int .i64 0])))) Fv.1
        have m11 : ((qx.new qy (.box [AV.int .u8 0, AV.str [], AV.int .i64 0])).set qy (.box (az [AV.int .u8 0, AV.str [], AV.int .i64 0] 0 (aC (.agg [.int .u8 (k : Nat), .str tx, .int .i64 0]))))).box qy = some [.int .u8 (k : Nat), .str tx, .int .i64 0] := by rw [bf]; rfl
        have n117 : b7 ≠ qy := Fv.da (T2.h7.choose_spec.1)
        generalize (qx.new qy (.box [AV.int .u8 0, AV.str [], AV.int .i64 0])).set qy (.box (az [AV.int .u8 0, AV.str [], AV.int .i64 0] 0 (aC (.agg [.int .u8 (k : Nat), .str tx, .int .i64 0])))) = q9 at *
        have T3 := T2.sO Vx
        have L3 := Vx.loop L2
        have aaH : ∀ (b : Nat) (x : List AV), qx.box b = some x -> b ≠ qy := fun b x h => Fv.da h
        clear Vx g11 Fv aa0
        intro j hj
        obtain ⟨v, q1, q2, q3⟩ := T3.h7
        have cont : ∀ e' : Int, (e' ≠ 0 -> jf s = .bad p e') -> (e' = 0 -> l.length < 900 /\ 0 < tx.length /\ je f s (p + tx.length) (l ++ [⟨k, tx, p⟩]) = jf s) -> (e' = 0 -> e = 0) -> j (.box b2 0) (.box b3 0) (.box b4 0) (.box b7 0) (.int .i64 (p : Nat)) (.box qy 0) (.int .i64 e') q9 := by
         intro e' QW aaM X6
         refine hj _ _ _ _ _ _ _ _ ?_
         by_cases kI : e' = 0
         · obtain ⟨ac9, Iq, LN⟩ := aaM kI
           simp only [kI, cg, aj, cj, cC, aE, aR, bW]
           rw [cT m11]
           refine ⟨⟨rfl, rfl, by simp⟩, ?_⟩
           have kp : ∀ {b : Nat} {x : List AV}, b ≠ qy -> q9.box b = some x -> (q9.set qy (.box (az [.int .u8 (k : Nat), .str tx, .int .i64 0] 2 (aC (.int .i64 (p : Nat)))))).box b = some x := fun h1 h2 => by rw [bK h1]; exact h2
           rw [eG (kp n117 q1), eR, bq]
           rw [ow bf]
           refine ⟨by simp [az], ?_⟩
           have YW : Grow (q9.set qy (.box (az [.int .u8 (k : Nat), .str tx, .int .i64 0] 2 (aC (.int .i64 (p : Nat)))))) v 51 3 l.length (ib l) := by
            rcases q2 with q2 | ⟨τ, r1, r2, r3⟩
            · exact .inl q2
            · exact .inr ⟨τ, r1, by rw [qs (iu m11 r2).symm]; exact r2, r3⟩
           have Fg : ∀ {b : Nat} {x : List AV}, q9.box b = some x -> b ≠ qy -> (q9.set qy (.box (az [.int .u8 (k : Nat), .str tx, .int .i64 0] 2 (aC (.int .i64 (p : Nat)))))).box b = some x := fun h1 h2 => kp h2 h1
           have l11 : (q9.set qy (.box (az [.int .u8 (k : Nat), .str tx, .int .i64 0] 2 (aC (.int .i64 (p : Nat)))))).loop o = some { L1 with state := .busy } := by
            rw [lZ]; exact L3
            rw [gV, if_neg (fX m11 L3).symm]
           have QV : (List.take 3 (List.drop 0 (az [.int .u8 (k : Nat), .str tx, .int .i64 0] 2 (aC (.int .i64 (p : Nat)))))) = jo ⟨k, tx, p⟩ := by simp [az, jo]
           rw [QV]
           generalize q9.set qy (.box (az [.int .u8 (k : Nat), .str tx, .int .i64 0] 2 (aC (.int .i64 (p : Nat))))) = SK at *
           rw [dE]
           refine ⟨by omega, ?_⟩
           rw [c6 (o := 0) (s := 3) rfl]
           refine ⟨⟨rfl, rfl, by simp [bB]⟩, ?_⟩
           rw [er]
           refine ⟨rfl, ?_⟩
           have TH := Fg q1 n117
           refine uc (m := 1) (l2 := jo ⟨k, tx, p⟩) YW rfl rfl (by omega) (by omega) (fun h => q3 (tk.1 h)) fun Dd v' g1 g2 g3 => ?_
           obtain ⟨kb, kl⟩ := kQ YW g2
           have Tt : v'.cN = true /\ aC v' = [v'] := by
            rcases g1 with ⟨_, _, rfl⟩ | ⟨τ, rfl, _, _⟩ <;> exact ⟨rfl, rfl⟩
           rw [cT (kb TH)]
           refine ⟨⟨Tt.1, by rw [Tt.2]; rfl, by simp⟩, ?_⟩
           have kk : ∀ {b : Nat} {x : List AV}, b7 ≠ b -> Dd.box b = some x -> (Dd.set b7 (.box (az [v] 0 (aC v')))).box b = some x := fun h1 h2 => by rw [bK h1.symm]; exact h2
           have lo : (Dd.set b7 (.box (az [v] 0 (aC v')))).loop o = some { L1 with state := .busy } := by
            rw [lZ]; exact kl l11
            rw [gV, if_neg (fX (kb TH) (kl l11)).symm]
           have Cv : ∀ {b : Nat} {x : List AV}, qx.box b = some x -> b ≠ qy := fun h => aaH _ _ h
           have T5 : TI (Dd.set b7 (.box (az [v] 0 (aC v')))) b1 b2 b3 b4 b7 bs bd s (l ++ [⟨k, tx, p⟩]) := by
            refine ⟨kk n71 (kb (Fg T3.h1 (Cv T2.h1))), ?_, ?_, ?_, ⟨v', by rw [bf, Tt.2]; rfl, ?_, fun h => by simp at h⟩, kk n7s (kb (Fg T3.hs (Cv T2.hs))), kk n7d (kb (Fg T3.hd (Cv T2.hd)))⟩
            · obtain ⟨x, hx⟩ := T2.h2; obtain ⟨y, hy⟩ := T3.h2; exact ⟨y, kk n72 (kb (Fg hy (Cv hx)))⟩
            · obtain ⟨x, hx⟩ := T2.h3; obtain ⟨y, hy⟩ := T3.h3; exact ⟨y, kk n73 (kb (Fg hy (Cv hx)))⟩
            · obtain ⟨x, hx⟩ := T2.h4; obtain ⟨y, hy⟩ := T3.h4; exact ⟨y, kk n74 (kb (Fg hy (Cv hx)))⟩
            · have el : (l ++ [(⟨k, tx, p⟩ : Tk)]).length = l.length + 1 := by simp
              rw [el, uG]
              rcases g1 with ⟨h0, _⟩ | ⟨τ, r1, r2, r3⟩
              · omega
              · exact .inr ⟨τ, r1, by rw [qs (iu (kb TH) r2).symm]; exact r2, r3⟩
           have aaO : ∃ c, v' = .vec (l.length + 1) c (ib (l ++ [⟨k, tx, p⟩])) := by
            rw [uG]
            rcases g1 with ⟨h0, _⟩ | ⟨τ, r1, _, _⟩
            · omega
            · exact ⟨_, r1⟩
           have h7' : (Dd.set b7 (.box (az [v] 0 (aC v')))).box b7 = some [v'] := by rw [bf, Tt.2]; rfl
           generalize Dd.set b7 (.box (az [v] 0 (aC v'))) = acU at *
           refine ⟨_, lo, ?_⟩
           have T6 := T5.qV (L' := { L1 with state := .ready, fH := none }) lo
           obtain ⟨c, hc⟩ := aaO
           subst hc
           have abJ : (acU.set o (.loop { L1 with state := .ready, fH := none })).box b7 = some [.vec (l.length + 1) c (ib (l ++ [⟨k, tx, p⟩]))] := by rw [bK (fX h7' lo)]; exact h7'
           simp only [bg, cZ, aj, cC, aE]
           rw [eG T6.hd, eR, bq]
           simp only [show hU K.P 75 = true by kernel_rfl, if_true, wS, oJ, nT]
           refine UG abJ rfl Im ?_
           simp only [bg, cI]
           have oR : p + tx.length <= s.length := by
            have := (vA (s := s[p] :: s.drop (p + 1)) (k := k) (t := tx) (by rw [nK, X6 kI])).2.length_le
            rw [<- rX] at this
            simp at this
            omega
           refine ⟨bp (by omega) (by omega), _, ?_, f, p + tx.length, l ++ [⟨k, tx, p⟩], rfl, rfl, rfl, rfl, by simp, oR, by omega, by simp; omega, LN, T6, _, ij, by rw [<- fN]; rfl, rfl, rfl⟩
           omega
         · simp only [kI, cg, aj, cM, dk, aK]
           refine Zu T3.h2 T3.h3 T3.h4 IJ IK IL ⟨rfl, rfl⟩ fun gY m2 m3 m4 mo => ?_
           have ob : ∀ {b : Nat}, (∃ x, q9.box b = some [x]) -> o ≠ b := fun ⟨x, h⟩ => (fX h L3).symm
           have L4 : gY.loop o = some { L1 with state := .busy } := by rw [lZ (mo o (ob T3.h2) (ob T3.h3) (ob T3.h4))]; exact L3
           refine ⟨_, L4, ?_⟩
           simp only [bg, cZ, aj, dk, aK]
           refine al.mk ⟨_, ij, by simp, ?_⟩
           have kp : ∀ {b : Nat} {x : List AV}, o ≠ b -> gY.box b = some x -> ((gY.set o (.loop { L1 with state := .done, fH := some .ret })).del o).box b = some x := fun h1 h2 => by rw [oe h1.symm, bK h1.symm]; exact h2
           refine fin _ _ _ _ (kp (ob T3.h2) m2) (kp (ob T3.h3) m3) (kp (ob T3.h4) m4) fun bQ => ?_
           rw [QW kI]; rfl
        have hlen : bD (some false) v = .val (.int .i64 l.length) := by
         rcases q2 with ⟨h0, _, rfl⟩ | ⟨τ, rfl, _, _⟩
         · rw [h0]; rfl
         · rfl
        simp only [aV, aj, aS, aM]
        by_cases u1 : e = 0
        · subst u1
          simp only [cj, dN, bG, jC q1, eR, fw, eN, hlen, aJ, aV, aF, if_true, aj, aT]
          rw [if_neg (by simp)] at dQ
          refine ⟨fun QU => ?_, fun QU => ?_⟩
          · rw [if_pos (by omega)] at dQ
            exact cont 5 (fun _ => dQ.symm) (fun h => by omega) (fun h => by omega)
          · rw [if_neg (by omega)] at dQ
            have Iq := (vA nK).1.1
            exact cont 0 (fun h => absurd rfl h) (fun _ => ⟨by omega, List.length_pos_iff.2 Iq, dQ⟩) (fun _ => rfl)
        · simp only [u1, cM, show (false == true) = false from rfl, bz, aF, bH, if_false, aj, aE]
          rw [if_pos u1] at dQ
          exact cont e (fun _ => dQ.symm) (fun h => absurd h u1) (fun h => h)
     simp only [aV, aj, aT, c32, c10]
     refine ⟨fun h => ?_, fun h => ?_⟩
     · simp only [h, cj]; rw [h] at blank; exact blank (.inl rfl)
     · by_cases lA : s[p].toNat = 10
       · simp only [lA, cj]; rw [lA] at blank; exact blank (.inr rfl)
       · simp only [lA, cM]; exact other (fun h1 => h1.elim h lA)
   · have X0 : s.drop p = [] := List.drop_eq_nil_of_le (by omega)
     have LN : jf s = .ok l := by
      rw [<- dQ]
      cases f with
      | zero => rfl
      | succ f => simp only [je]; rw [X0]
     refine al.mk ⟨L1, rC, by rw [FJ]; simp, ?_⟩
     rw [DD]
     obtain ⟨v, g1, g2, g3⟩ := T.h7
     have dl : ∀ {b : Nat} {x : List AV}, tu.box b = some x -> (tu.del o).box b = some x := fun h => by rw [oe (fX h rC)]; exact h
     have hv : v.cN = true /\ aC v = [v] := by
      rcases g2 with ⟨_, _, rfl⟩ | ⟨τ, rfl, _, _⟩ <;> exact ⟨rfl, rfl⟩
     show (av (some (false, 1)) (.box b7 0) (tu.del o)).wp K (tu.del o) _ _
     rw [eG (dl g1), eR, bq]
     refine Zu (T.h2.imp fun _ h => dl h) (T.h3.imp fun _ h => dl h) (T.h4.imp fun _ h => dl h) IJ IK IL hv fun gY m2 m3 m4 _ => ?_
     refine fin gY _ _ _ m2 m3 m4 fun bQ => ?_
     rw [LN]
     show AV.aU [resolve 4 bQ v, .int .i64 0, .int .i64 0] = _
     rw [yz 2 g2 g3]
     rfl
 · simp only [he, cM, dk, aK]
   rw [if_pos he] at dQ
   refine Zu ⟨_, k2⟩ ⟨_, k3⟩ ⟨_, k4⟩ IJ IK IL ⟨rfl, rfl⟩ fun dm m2 m3 m4 _ => ?_
   exact fin dm _ _ _ m2 m3 m4 fun gY => by rw [dQ]; rfl
end Go.Rip
