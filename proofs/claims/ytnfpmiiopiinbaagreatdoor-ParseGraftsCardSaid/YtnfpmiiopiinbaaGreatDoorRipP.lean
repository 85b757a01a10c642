/- Lemmas for the proof: no conditions. -/
import Derived.Test.YtnfpmiiopiinbaaGreatDoorRipZz
import Derived.Test.YtnfpmiiopiinbaaGreatDoorRipN
import Derived.Test.YtnfpmiiopiinbaaGreatDoorRipE
import Derived.Test.YtnfpmiiopiinbaaGreatDoorRipF
set_option linter.unusedVariables false
set_option linter.unusedSimpArgs false
set_option linter.loopingSimpArgs false
namespace Go.Rip
open Go.Proofs Go.RowKit
def cls (c : Int) : Int := if c = 32 \/ c = 10 then 1 else if c < 32 \/ c > 126 then 0 else if 48 <= c /\ c <= 57 then 2 else if 97 <= c /\ c <= 122 then 3 else if 65 <= c /\ c <= 90 then 4 else 5
theorem C3 (c : Int) : Pure K 216 [.int .u8 c] (.int .i64 (cls c)) := by
 intro U R hR
 refine MD ?_
 simp (contextual := true) only [MC, oG, ng, aX, bg, fm, dK, dT, ah, aI, aC, jB, bl, a7, av, aA, ga, Ab, aY, bf, aW, bT, ct, ite_true, ite_false, beq_true, beq_false, ca, dt, c7, if_true, if_false, true_and, and_true, not_true, not_false_iff]
 repeat' (first | refine And.intro ?_ ?_ | intro _)
 all_goals (refine ak.eq hR ?_; simp only [cls, AV.int.injEq, true_and])
 all_goals grind
def DQ (l : List Int) (s : Int) : Int := match l.findIdx? (· = s) with | some i => i | none => -1
theorem Fw (c : iQ) (l : List Int) (s : Int) (hn : l.length <= 100000) : Pure K 246 [.vec l.length c (l.map (.int .i64)), .int .i64 s] (.int .i64 (DQ l s)) := by
 intro U R hR
 refine M6 ?_
 simp only [M5, o3, ah]
 refine ⟨fun m v0 v1 v7 v8 ae => ∃ i : Nat, m = l.length - i /\ i <= l.length /\ v0 = .vec l.length c (l.map (.int .i64)) /\ v1 = .int .i64 s /\ v7 = .int .i64 l.length /\ v8 = .int .i64 i /\ ae = U /\ ∀ j, j < i -> l[j]? ≠ some s, ⟨l.length, 0, by simp [Fn.app]⟩, ?_⟩
 intro m v0 v1 v7 v8 ae hI
 obtain ⟨i, rfl, hi, rfl, rfl, rfl, rfl, rfl, fT⟩ := hI
 simp only [bg, ah, aY]
 refine ⟨fun aJ => ?_, fun fJ => ?_⟩
 · have aJ : i < l.length := by omega
   have hd : (l.map (AV.int .i64)).drop (i * 1) = .int .i64 l[i] :: (l.map (AV.int .i64)).drop (i + 1) := by
    rw [Nat.mul_one, gy (by simpa using aJ)]; simp
   simp only [vp, wp_cond, ah, dR, hd, rS, dB, aX, aY]
   refine ⟨by omega, fun he => ?_, fun bW => ?_⟩
   · refine ak.eq hR ?_
     have : l.findIdx? (· = s) = some i := by
      rw [Em]
      refine ⟨aJ, by simp [he], fun j hj => ?_⟩
      have := fT j hj
      rw [js (by omega)] at this
      simpa using this
     simp [DQ, this]
   · simp only [jH, dC, wp_cond, ah]
     refine ⟨aS (by omega) (by omega), ?_⟩
     refine ⟨l.length - (i + 1), by omega, i + 1, rfl, by omega, rfl, rfl, rfl, by simp, rfl, fun j hj => ?_⟩
     rcases eM j i with h | h
     · exact fT j h
     · have : j = i := by omega
       subst this
       rw [js aJ]; simpa using fun h => bW h.symm
 · refine ak.eq hR ?_
   have : l.findIdx? (· = s) = none := by
    rw [List.findIdx?_eq_none_iff]
    intro x hx
    obtain ⟨j, hj, rfl⟩ := List.getElem_of_mem hx
    have := fT j (by omega)
    rw [js hj] at this
    simpa using this
   simp [DQ, this]
theorem Fu (l : List Int) (s : Int) : decide (0 <= DQ l s) = decide (s ∈ l) := by
 unfold DQ
 split
 · rename_i j hj
   obtain ⟨h1, h2, _⟩ := Em.1 hj
   have : s ∈ l := by have := of_decide_eq_true h2; exact this ▸ pU h1
   simp [this]
 · rename_i hj
   rw [List.findIdx?_eq_none_iff] at hj
   have : s ∉ l := fun hm => by simpa using hj s hm
   simp [this]
theorem ux (c : Int) (cp : iQ) (l : List Int) (hn : l.length <= 100000) : Pure K 151 [.int .u8 c, .vec l.length cp (l.map (.int .i64))] (.bool (decide (cls c ∈ l))) := by
 intro U R hR
 refine LH ?_
 refine (C3 c).go ?_
 refine MB ?_
 refine (Fw cp l (cls c) hn).go ?_
 simp only [dT, ah, Fu]
 exact ak.mk (ak.mk hR)
theorem BP (c : UInt8) : decide (cls c.toNat ∈ [2]) = eo c := by
 unfold cls eo
 rw [lY]
 simp only [mP, c7]
 grind
theorem JQ (c : UInt8) : decide (cls c.toNat ∈ [3]) = jn c := by
 unfold cls jn
 rw [lY]
 simp only [mP, c7]
 grind
theorem JN (c : UInt8) : decide (cls c.toNat ∈ [2, 3, 4]) = cZ c := by
 unfold cls cZ eo jn xd
 rw [lY]
 simp only [dS, List.not_mem_nil, or_false, c7, jt]
 grind
theorem JP (c : UInt8) : (!decide (cls c.toNat ∈ [0])) = ow c := by
 unfold cls ow
 rw [lY]
 simp only [mP, c7, Bool.not_eq_true', decide_eq_false_iff_not]
 grind
theorem Fx (c : UInt8) : Pure K 146 [.int .u8 c.toNat] (.bool (ow c)) := by
 intro U R hR
 refine Lx ?_
 unfold Lw
 rw [fC]
 refine ⟨by omega, ?_⟩
 rw [eO (o := 0) (s := 1) rfl]
 refine ⟨⟨rfl, rfl, by simp [bK]⟩, ?_⟩
 rw [gM]
 refine ⟨rfl, ?_⟩
 refine (ux c.toNat .full [0] (by simp)).go ?_
 simp only [c8, ah, JP]
 exact ak.mk hR
theorem getD_at {s : bh} {i : Nat} (h : i < s.length) : s.getD i 0 = s[i] := by simp [sJ, h]
theorem N3 (s : bh) : Pure K 74 [.str s] (.aR [.int .i64 (sr s).1, .int .i64 (sr s).2]) := by
 intro U R hR
 refine Pr ?_
 unfold Q9
 simp only [ia, ah, dK, aY]
 unfold sr at hR
 refine ⟨fun h => ?_, fun h => ?_⟩
 · rw [if_pos (by omega)] at hR
   exact ak.mk hR
 · rw [if_neg (by omega)] at hR
   refine ⟨fun m v0 v9 v10 ae => ∃ i : Nat, m = s.length - i /\ i <= s.length /\ v0 = .str s /\ v9 = .int .i64 s.length /\ v10 = .int .i64 i /\ ae = U /\ ∀ j (hj : j < s.length), j < i -> ow s[j] = true, ⟨s.length, 0, by simp [Fn.app]⟩, ?_⟩
   rintro m v0 v9 v10 ae ⟨i, rfl, hi, rfl, rfl, rfl, rfl, bm⟩
   simp only [bg, ah, aY]
   refine ⟨fun aJ => ?_, fun fJ => ?_⟩
   · have aJ : i < s.length := by omega
     rw [u4]
     refine ⟨by omega, ?_⟩
     rw [dR, getD_at aJ]
     refine (Fx s[i]).go ?_
     simp only [c8, ah]
     cases hb : ow s[i] with
     | false =>
       simp only [dt, bf]
       have : s.findIdx? (fun c => !ow c) = some i := by
        rw [Em]
        exact ⟨aJ, by simp [hb], fun j hj => by simp [bm j (by omega) hj]⟩
       rw [this] at hR
       exact ak.mk hR
     | true =>
       simp only [ca, aW, cg]
       refine ⟨aS (by omega) (by omega), s.length - (i + 1), by omega, i + 1, rfl, by omega, rfl, rfl, by simp, rfl, fun j hj qR => ?_⟩
       rcases eM j i with h | h
       · exact bm j hj h
       · have : j = i := by omega
         subst this; exact hb
   · have : s.findIdx? (fun c => !ow c) = none := by
      rw [List.findIdx?_eq_none_iff]
      intro x hx
      obtain ⟨j, hj, rfl⟩ := List.getElem_of_mem hx
      simp [bm j hj (by omega)]
     rw [this] at hR
     exact ak.mk hR
theorem pV {p : UInt8 -> Bool} : ∀ {l : bh}, (∀ x ∈ l, p x = true) -> l.takeWhile p = l
 | [], _ => rfl
 | c :: l, h => by rw [nG, h c (by simp)]; simp [pV (l := l) fun x hx => h x (by simp [hx])]
theorem run_pure (s : bh) (hs : s.length <= 100000) : Pure K 149 [.str s] (.int .i64 (s.takeWhile cZ).length) := by
 intro U R hR
 refine LC ?_
 unfold LB
 refine ⟨fun m v0 v2 ae => ∃ i : Nat, m = s.length - i /\ i <= s.length /\ v0 = .str s /\ v2 = .int .i64 i /\ ae = U /\ ∀ j (hj : j < s.length), j < i -> cZ s[j] = true, ⟨s.length, 0, by simp [Fn.app]⟩, ?_⟩
 rintro m v0 v2 ae ⟨i, rfl, hi, rfl, rfl, rfl, bm⟩
 have uj : (s.take i).takeWhile cZ = s.take i := by
  refine pV fun x hx => ?_
  obtain ⟨j, hj, rfl⟩ := List.getElem_of_mem hx
  simp only [List.length_take] at hj
  rw [List.getElem_take]
  exact bm j (by omega) (by omega)
 have zE : s.takeWhile cZ = s.take i ++ (s.drop i).takeWhile cZ := by
  conv => lhs; rw [<- List.take_append_drop i s]
  rw [List.takeWhile_append, uj]
  simp
 simp only [ia, ah, bg, aI, aC]
 by_cases aJ : i < s.length
 · have mI : (i : Int) < s.length := by omega
   simp only [mI, bT, dG, bl, av, uL, ga, dR, getD_at aJ]
   refine ⟨by simp, ?_⟩
   rw [uK]
   refine ⟨by omega, ?_⟩
   rw [pK (o := 0) (s := 1) rfl]
   refine ⟨⟨rfl, rfl, by simp [bK]⟩, ?_⟩
   rw [pK (o := 1) (s := 1) rfl]
   refine ⟨⟨rfl, rfl, by simp [bK, aB]⟩, ?_⟩
   rw [pK (o := 2) (s := 1) rfl]
   refine ⟨⟨rfl, rfl, by simp [bK, aB]⟩, ?_⟩
   rw [xj]
   refine ⟨rfl, _, ux s[i].toNat .full [2, 3, 4] (by simp), ?_⟩
   rw [JN]
   simp only [aA, if_true, ah]
   have hd : s.drop i = s[i] :: s.drop (i + 1) := gy aJ
   cases hb : cZ s[i] with
   | true =>
     simp only [bf, cg]
     refine ⟨aS (by omega) (by omega), s.length - (i + 1), by omega, i + 1, rfl, by omega, rfl, by simp, rfl, fun j hj qR => ?_⟩
     rcases eM j i with h | h
     · exact bm j hj h
     · have : j = i := by omega
       subst this; exact hb
   | false =>
     simp only [aW]
     refine ak.eq hR ?_
     rw [zE, hd, nG, hb]
     simp
     omega
 · have mI : ¬ (i : Int) < s.length := by omega
   simp only [mI, ct, show (false == true) = false from rfl, a7, aA, bo, if_false, ah, aW]
   refine ak.eq hR ?_
   rw [zE, List.drop_eq_nil_of_le (by omega)]
   simp; omega
end Go.Rip
namespace Go.Rip
open Go.Proofs Go.RowKit
theorem B6 {s : bh} {i : Nat} (h : i < s.length) : gu 0 (s.take (i + 1)) = min (10 * gu 0 (s.take i) + ((s[i].toNat : Int) - 48)) 1000001 := by
 have : s.take (i + 1) = s.take i ++ [s[i]] := by rw [nH, js h]; rfl
 rw [this]
 unfold gu
 rw [List.foldl_append]
 rfl
theorem FH (s : bh) (hs : s.length <= 100000) : Pure K 152 [.str s] (.int .i64 (ja s)) := by
 intro U R hR
 refine LJ ?_
 unfold LI
 simp only [ia, ah]
 refine ⟨fun m v0 v3 v6 v7 ae => ∃ i : Nat, m = s.length - i /\ i <= s.length /\ v0 = .str s /\ v3 = .int .i64 (gu 0 (s.take i)) /\ v6 = .int .i64 s.length /\ v7 = .int .i64 i /\ ae = U /\ (s.take i).all eo = true, ⟨s.length, 0, by simp [Fn.app, gu]⟩, ?_⟩
 rintro m v0 v3 v6 v7 ae ⟨i, rfl, hi, rfl, rfl, rfl, rfl, rfl, bm⟩
 have hb := AW (s.take i) 0 (by omega)
 have ve := qA (s.take i) 0 bm (by omega)
 simp only [bg, ah, aY]
 refine ⟨fun aJ => ?_, fun fJ => ?_⟩
 · have aJ : i < s.length := by omega
   rw [u4]
   refine ⟨by omega, ?_⟩
   rw [dR, getD_at aJ, fC]
   refine ⟨by omega, ?_⟩
   rw [eO (o := 0) (s := 1) rfl]
   refine ⟨⟨rfl, rfl, by simp [bK]⟩, ?_⟩
   rw [gM]
   refine ⟨rfl, ?_⟩
   refine (ux s[i].toNat .full [2] (by simp)).go ?_
   rw [BP]
   simp only [c8, ah]
   have fp : s.take (i + 1) = s.take i ++ [s[i]] := by rw [nH, js aJ]; rfl
   cases hd : eo s[i] with
   | false =>
     simp only [dt, bf]
     refine ak.eq hR ?_
     have : s.all eo = false := by
      rw [Bool.eq_false_iff]
      intro h
      rw [ef] at h
      rw [h s[i] (pU aJ)] at hd
      cases hd
     simp [ja, this]
   | true =>
     have hc := kn.1 hd
     simp only [ca, aW, RG]
     refine ⟨aS (by omega) (by omega), ?_⟩
     rw [u4]
     refine ⟨by omega, ?_⟩
     rw [dR, getD_at aJ]
     have hw : IntKind.u8.wrap ((s[i].toNat : Int) - 48) = (s[i].toNat : Int) - 48 := by
      show ((s[i].toNat : Int) - 48) % 256 = _
      omega
     simp only [dU, CX, ah, hw, ua, wp_cond, cg, Gx]
     refine ⟨aS (by omega) (by omega), aS (by omega) (by omega), aS (by omega) (by omega), ?_⟩
     refine ⟨s.length - (i + 1), by omega, i + 1, rfl, by omega, rfl, ?_, rfl, by simp, rfl, ?_⟩
     · rw [B6 aJ]
       congr 1
       omega
     · rw [fp, List.all_append, bm]; simp [hd]
 · have hi : i = s.length := by omega
   subst hi
   rw [oI] at bm hb ve ⊢
   have hv : AX s = gu 0 s := rfl
   simp only [ia, ah, dK, aI, aC]
   by_cases h1 : 1 < s.length
   · have Di : (1 : Int) < s.length := by omega
     simp only [Di, bT, dG, bl, av, uL, ga, aX, aA, if_true, ah, aY]
     have h0 : s.getD (0 : Int).toNat 0 = s[0] := getD_at (by omega)
     rw [h0]
     have hh : s.head? = some s[0] := by
      cases s with
      | nil => simp at h1
      | cons c r => rfl
     refine ⟨⟨by omega, by omega⟩, fun By => ?_, fun By => ⟨fun hm => ?_, fun hm => ?_⟩⟩
     · refine ak.eq hR ?_
       have UD : s[0].toNat = (48 : UInt8).toNat := by show s[0].toNat = 48; omega
       have : s[0] = 48 := UInt8.toNat_inj.1 UD
       simp [ja, bm, h1, hh, this]
     · refine ak.eq hR ?_
       have : ¬ s[0] = 48 := fun e => By (by rw [e]; rfl)
       simp [ja, bm, hh, this, hv, hm]
     · refine ak.eq hR ?_
       have : ¬ s[0] = 48 := fun e => By (by rw [e]; rfl)
       simp [ja, bm, hh, this, hv, hm]
   · have Di : ¬ (1 : Int) < s.length := by omega
     simp only [Di, ct, show (false == true) = false from rfl, a7, aA, bo, if_false, ah, aW, aY]
     refine ⟨fun hm => ?_, fun hm => ?_⟩
     · refine ak.eq hR ?_
       simp [ja, bm, h1, hv, hm]
     · refine ak.eq hR ?_
       simp [ja, bm, h1, hv, hm]
theorem tf (s p : bh) : Pure K 213 [.str s, .str p] (.bool (p.isPrefixOf s)) :=
 Pure.yD (vs := [.string ⟨s.toArray⟩, .string ⟨p.toArray⟩]) (v := .bool (p.isPrefixOf s)) (fun g us h => by
  simp only [aE, az] at h
  obtain ⟨_, _, rfl, rfl, _, _, rfl, rfl, rfl⟩ := h; rfl) (fun g => by simp only [az]) fun w => Tryz.strings_HasPrefix ⟨s.toArray⟩ ⟨p.toArray⟩ w
theorem uS (s : bh) : (fP.find? fun x => x.isPrefixOf s) = if da.isPrefixOf s then some da else if ji.isPrefixOf s then some ji else match s with
 | [] => none
 | c :: _ => if c ∈ dr then some [c] else none := by
 cases s with
 | nil => rfl
 | cons c r =>
   by_cases h1 : da.isPrefixOf (c :: r) = true
   · simp only [fP, List.find?_cons, h1, if_true]
   · by_cases h2 : ji.isPrefixOf (c :: r) = true
     · simp only [fP, List.find?_cons, h1, h2, if_true, bo, if_false]
     · simp only [fP, List.find?_cons, h1, h2, bo, if_false]
       have e : ∀ x : UInt8, [x].isPrefixOf (c :: r) = (x == c) := fun x => by simp [List.isPrefixOf]
       simp only [show xy = [61] from rfl, show xx = [60] from rfl, show xr = [43] from rfl, show xv = [45] from rfl, show xq = [42] from rfl, show pA = [33] from rfl, show pB = [40] from rfl, show qp = [41] from rfl, show xz = [123] from rfl, show Ao = [125] from rfl, show xu = [44] from rfl, show sj = [59] from rfl, show xw = [58] from rfl, show Am = [46] from rfl, e]
       by_cases hc : c ∈ dr
       · rw [if_pos hc]
         simp only [dr, dS, List.not_mem_nil, or_false] at hc
         rcases hc with rfl | rfl | rfl | rfl | rfl | rfl | rfl | rfl | rfl | rfl | rfl | rfl | rfl | rfl <;> rfl
       · rw [if_neg hc]
         simp only [dr, dS, List.not_mem_nil, or_false, not_or] at hc
         have f : ∀ x : UInt8, ¬ c = x -> (x == c) = false := fun x h => by simp [Ne.symm h]
         simp only [f _ hc.1, f _ hc.2.1, f _ hc.2.2.1, f _ hc.2.2.2.1, f _ hc.2.2.2.2.1, f _ hc.2.2.2.2.2.1, f _ hc.2.2.2.2.2.2.1, f _ hc.2.2.2.2.2.2.2.1, f _ hc.2.2.2.2.2.2.2.2.1, f _ hc.2.2.2.2.2.2.2.2.2.1, f _ hc.2.2.2.2.2.2.2.2.2.2.1, f _ hc.2.2.2.2.2.2.2.2.2.2.2.1, f _ hc.2.2.2.2.2.2.2.2.2.2.2.2.1, f _ hc.2.2.2.2.2.2.2.2.2.2.2.2.2, List.find?_nil]
theorem DR (l : List UInt8) (c : UInt8) : decide (Lib.indexByte l c < 0) = !decide (c ∈ l) := by
 induction l with
 | nil => simp [Lib.indexByte]
 | cons b l ih =>
   have hg := Lib.indexByte_ge l c
   unfold Lib.indexByte
   by_cases h : b = c
   · subst h; simp
   · have hc : ¬ c = b := fun e => h e.symm
     have h' : (b == c) = false := by simp [h]
     rw [h']
     by_cases hm : c ∈ l
     · simp only [hm, bT, ca, decide_eq_false_iff_not] at ih
       have h2 : (Lib.indexByte l c == -1) = false := by simp; omega
       simp [h2, hm]; omega
     · simp only [hm, ct, dt, c7] at ih
       have h2 : (Lib.indexByte l c == -1) = true := by simp; omega
       simp [h2, hm, hc]
def nK (s : bh) : Int × Nat × bh := match fP.find? fun x => x.isPrefixOf s with | some x => (0, 4, x) | none => (4, 0, [])
def Iu (p : Int × Nat × bh) : AV := .aR [.agg [.int .u8 p.2.1, .str p.2.2, .int .i64 0], .int .i64 p.1]
theorem Nj (s : bh) (hs : s.length <= 100000) : Pure K 150 [.str s] (Iu (nK s)) := by
 refine Pure.of rfl rfl (fun U => rfl) fun R hR => ?_
 refine LG ?_
 unfold LF
 rw [cN]
 intro b hb
 generalize lE : (bD _).new b _ = U
 have eH : U.box b = some [AV.int .u8 0, AV.str [], AV.int .i64 0] := by rw [<- lE]; exact aN
 clear lE hb
 have P6 : ∀ {K' : AV -> St -> Prop} {Kp : AV -> St -> Prop} {z : List AV} {ps : List (Nat × AV)} {U : St}, (dj none (some z) (some (2, 9, 1)) ps).wp K U K' Kp = (eW (fun i => some (i * 1, 1)) ps z fun z => .val (.agg z)).wp K U K' Kp := rfl
 rw [P6, eO (o := 0) (s := 1) rfl]
 refine ⟨⟨rfl, rfl, by simp⟩, ?_⟩
 rw [eO (o := 1) (s := 1) rfl]
 refine ⟨⟨rfl, rfl, by simp [aB]⟩, ?_⟩
 rw [SN]
 have fin : ∀ (k : Nat) (x : bh) (e : Int) (ps : List (Nat × AV)) (ae : St), ae.box b = some [AV.int .u8 0, AV.str [], AV.int .i64 0] -> vG [(0, 1), (1, 1), (2, 1)] ps [AV.int .u8 0, AV.str [], AV.int .i64 0] = some [.int .u8 k, .str x, .int .i64 0] -> nK s = (e, k, x) ->
  (dj (some [(0, 1), (1, 1), (2, 1)]) (some [AV.int .u8 0, AV.str [], AV.int .i64 0]) none ps).wp K ae (fun v U => (aL (some (true, 3)) (.box b 0) v U).wp K U (fun _ U => br (some (true, 3)) (.box b 0) U fun r0 => ak R (.aR [r0, .int .i64 e]) U) (aa R)) (aa R) := by
  intro k x e ps ae dm h1 h2
  refine oQ _ h1 ?_
  rw [cI dm]
  refine ⟨⟨rfl, rfl, by simp⟩, ?_⟩
  rw [lF aT]
  refine ⟨by simp [aB], ?_⟩
  rw [h2] at hR
  exact ak.eq (hR _) rfl
 refine ⟨fun m v0 v2 v6 v7 ae => ∃ i : Nat, m = 2 - i /\ i <= 2 /\ v0 = .str s /\ v2 = .box b 0 /\ v6 = .agg [.str da, .str ji] /\ v7 = .int .i64 i /\ ae.box b = some [AV.int .u8 0, AV.str [], AV.int .i64 0] /\ (0 < i -> da.isPrefixOf s = false) /\ (1 < i -> ji.isPrefixOf s = false),
  ⟨2, 0, rfl, by omega, rfl, rfl, rfl, rfl, eH, by simp, by simp⟩, ?_⟩
 rintro m v0 v2 v6 v7 ae ⟨i, rfl, hi, rfl, rfl, rfl, rfl, dm, wc, Vn⟩
 simp only [bg, ah, aY]
 refine ⟨fun aJ => ?_, fun fJ => ?_⟩
 · have aJ : i < 2 := by omega
   obtain rfl | rfl : i = 0 \/ i = 1 := by omega
   · simp only [eE, wp_cond]
     refine ⟨by omega, ?_⟩
     simp only [show ((0 : Nat) : Int).toNat * 1 = 0 from rfl, List.drop, gg, ah]
     refine (tf s da).go ?_
     cases hp : da.isPrefixOf s with
     | true =>
       simp only [bf]
       refine fin 4 da 0 _ ae dm rfl ?_
       simp [nK, uS, hp]
     | false =>
       simp only [aW, cg]
       exact ⟨aS (by omega) (by omega), 1, by omega, 1, rfl, by omega, rfl, rfl, rfl, rfl, dm, fun _ => by first | exact hp | trivial, by simp⟩
   · simp only [eE, wp_cond]
     refine ⟨by omega, ?_⟩
     simp only [show ((1 : Nat) : Int).toNat * 1 = 1 from rfl, List.drop, gg, ah]
     refine (tf s ji).go ?_
     cases hp : ji.isPrefixOf s with
     | true =>
       simp only [bf]
       refine fin 4 ji 0 _ ae dm rfl ?_
       simp [nK, uS, hp, wc (by omega)]
     | false =>
       simp only [aW, cg]
       exact ⟨aS (by omega) (by omega), 0, by omega, 2, rfl, by omega, rfl, rfl, rfl, rfl, dm, fun _ => wc (by omega), fun _ => by first | exact hp | trivial⟩
 · have hi2 : i = 2 := by omega
   subst hi2
   have p0 := wc (by omega)
   have p1 := Vn (by omega)
   simp only [iB, ah, aI, aC]
   cases s with
   | nil =>
     simp only [show w_ = ([] : List UInt8) from rfl, bT, show (true == false) = false from rfl, a7, aA, if_true, ah, bf]
     exact fin 0 [] 4 _ ae dm rfl rfl
   | cons c r =>
     have bW : ¬ (c :: r = w_) := by simp [show w_ = ([] : List UInt8) from rfl]
     simp only [bW, ct, dG, bl, av, uL, ga, aA, bo, if_false, ah]
     refine ⟨by simp, _, tp dr c.toNat, ?_⟩
     simp only [bg, av, aA, bo, if_false, ah]
     have hcc : ((c.toNat : Int).toNat).toUInt8 = c := by simp
     rw [hcc, DR]
     cases hm : decide (c ∈ dr) with
     | false =>
       have Jw : ¬ c ∈ dr := by simpa using hm
       simp only [dt, bf]
       refine fin 0 [] 4 _ ae dm rfl ?_
       simp [nK, uS, p0, p1, Jw]
     | true =>
       have Jw : c ∈ dr := by simpa using hm
       simp only [ca, aW, l8, eV, fD, wp_cond, ah]
       refine ⟨⟨by omega, by omega, by simp; omega⟩, ?_⟩
       refine fin 4 [c] 0 _ ae dm rfl ?_
       simp [nK, uS, p0, p1, Jw]
end Go.Rip
namespace Go.Rip
open Go.Proofs Go.RowKit
theorem D4 (s : bh) : ∀ l : List bh, kH .s (.str s) (.bool false) false (l.map .str) (l.map fun _ => .bool true) = .val (.bool (decide (s ∈ l)))
 | [] => by simp [kH]
 | x :: l => by
   simp only [dJ, kH, fL]
   by_cases h : s = x
   · subst h; simp
   · rw [show (s == x) = false by simp [h]]
     have := D4 s l
     simp only [bo, if_false, this]
     simp [h]
theorem NL : As = .eR (kG.map .str) (kG.map fun _ => .bool true) := rfl
theorem IA (s : bh) (U : St) : fI (some (.s, 4)) (some (AV.bool false)) As (.str s) false U = .val (.bool (decide (s ∈ kG))) := by
 rw [NL]
 simp only [fI, kD, ox]
 exact D4 s kG
theorem Hi (s : bh) (hs : s.length <= 100000) : Pure K 77 [.str s] (Iu (fQ s)) := by
 refine Pure.of rfl rfl (fun U => rfl) fun R hR => ?_
 refine Pu ?_
 unfold Rc
 rw [cN]
 intro b hb
 generalize lE : (bD _).new b _ = U
 have eH : U.box b = some [AV.int .u8 0, AV.str [], AV.int .i64 0] := by rw [<- lE]; exact aN
 clear lE hb
 refine (run_pure s hs).go ?_
 have uj : s.take (s.takeWhile cZ).length = s.takeWhile cZ := by
  have := ri cZ (l := s)
  exact (List.prefix_iff_eq_take.1 this).symm
 have hle : (s.takeWhile cZ).length <= s.length := (ri cZ).length_le
 simp only [l8, eV, fD, wp_cond, ah, dR, uj, show (0 : Int).toNat = 0 from rfl, ez, iB, aY]
 refine ⟨⟨by omega, by omega, by omega⟩, fun h0 => ?_, fun h0 => ?_⟩
 · have h0 : s.takeWhile cZ = [] := h0
   refine (Nj s hs).go ?_
   simp only [Iu, cz, List.drop, bM]
   rw [cI eH]
   refine ⟨⟨rfl, rfl, by simp⟩, ?_⟩
   rw [lF aT]
   refine ⟨by simp [aB], ak.eq (hR _) ?_⟩
   have : fQ s = nK s := by unfold fQ nK; rw [h0]; rfl
   rw [this]; rfl
 · cases hw : s.takeWhile cZ with
   | nil => exact absurd hw h0
   | cons c r =>
     have hlw : (c :: r).length <= s.length := by rw [<- hw]; exact hle
     have ht : fQ s = if eo c then (ja (c :: r), 2, c :: r) else if jn c = false then (4, 0, []) else if (c :: r) ∈ kG then (0, 3, c :: r) else if 12 < (c :: r).length then (4, 0, []) else (0, 1, c :: r) := by
      unfold fQ; rw [hw]
     have fin : ∀ (k : Nat) (x : bh) (e : Int) (zs : List AV) (ae : St), zs = [.int .u8 k, .str x, .int .i64 0] -> ae.box b = some [AV.int .u8 0, AV.str [], AV.int .i64 0] -> fQ s = (e, k, x) ->
      (aL (some (true, 3)) (.box b 0) (.agg zs) ae).wp K ae (fun _ U => br (some (true, 3)) (.box b 0) U fun r0 => ak R (.aR [r0, .int .i64 e]) U) (aa R) := by
      intro k x e zs ae hz dm h2
      subst hz
      rw [cI dm]
      refine ⟨⟨rfl, rfl, by simp⟩, ?_⟩
      rw [lF aT]
      refine ⟨by simp [aB], ?_⟩
      rw [h2] at hR
      exact ak.eq (hR _) rfl
     have one : ∀ (cl : Int) (K' : AV -> St -> Prop) (ae : St), K' (.bool (decide (cls c.toNat ∈ [cl]))) ae ->
      (eE true none none (.str (c :: r)) (.int .i64 0)).wp K ae (fun bZ U => (aO (some (178, 1)) (some [AV.int .i64 0]) 1 false [(0, (AV.int .i64 cl))]).wp K U (fun cH U => af K 151 [bZ, cH] U (ax K' (aa R))) (aa R)) (aa R) := by
      intro cl K' ae h
      rw [u4]
      refine ⟨⟨by omega, by simp⟩, ?_⟩
      rw [fC]
      refine ⟨by omega, ?_⟩
      rw [eO (o := 0) (s := 1) rfl]
      refine ⟨⟨rfl, rfl, by simp [bK]⟩, ?_⟩
      rw [gM]
      refine ⟨rfl, ?_⟩
      exact (ux c.toNat .full [cl] (by simp)).go h
     refine one 2 _ _ ?_
     rw [BP]
     cases hd : eo c with
     | true =>
       simp only [bf]
       refine oQ [.int .u8 2, .str (c :: r), .int .i64 0] rfl ?_
       refine (FH (c :: r) (by omega)).go ?_
       exact fin 2 (c :: r) _ _ _ rfl eH (by rw [ht, if_pos hd])
     | false =>
       simp only [aW]
       refine one 3 _ _ ?_
       rw [JQ]
       simp only [c8, ah]
       have p4 : ¬ (eo c = true) := by rw [hd]; simp
       cases kU : jn c with
       | false =>
         simp only [dt, bf]
         refine oQ [.int .u8 0, .str [], .int .i64 0] rfl ?_
         exact fin 0 [] _ _ _ rfl eH (by rw [ht, if_neg p4, if_pos kU])
       | true =>
         have dL : ¬ (jn c = false) := by rw [kU]; simp
         simp only [ca, aW]
         refine Au.go ?_
         simp only [IA, ah, aY, ia, dK]
         refine ⟨fun hk => ?_, fun hk => ⟨fun hl => ?_, fun hl => ?_⟩⟩
         · refine oQ [.int .u8 3, .str (c :: r), .int .i64 0] rfl ?_
           exact fin 3 (c :: r) _ _ _ rfl eH (by rw [ht, if_neg p4, if_neg dL, if_pos hk])
         · refine oQ [.int .u8 0, .str [], .int .i64 0] rfl ?_
           exact fin 0 [] _ _ _ rfl eH (by rw [ht, if_neg p4, if_neg dL, if_neg hk, if_pos (by omega)])
         · refine oQ [.int .u8 1, .str (c :: r), .int .i64 0] rfl ?_
           exact fin 1 (c :: r) _ _ _ rfl eH (by rw [ht, if_neg p4, if_neg dL, if_neg hk, if_neg (by omega)])
end Go.Rip
namespace Go.Rip
open Go.Proofs Go.RowKit
theorem Af (u : bh) : (Lib.indexByte u 10 = -1 /\ u.takeWhile (fun c => c.toNat ≠ 10) = u) \/ ∃ k : Nat, Lib.indexByte u 10 = k /\ k < u.length /\ u.takeWhile (fun c => c.toNat ≠ 10) = u.take k := by
 have nW : ∀ c : UInt8, c.toNat = 10 ↔ c = 10 := fun c => ⟨fun h => UInt8.toNat_inj.1 h, fun h => by rw [h]; rfl⟩
 induction u with
 | nil => left; exact ⟨rfl, rfl⟩
 | cons b u ih =>
   unfold Lib.indexByte
   by_cases hb : b = 10
   · right
     refine ⟨0, by simp [hb], by simp, ?_⟩
     rw [nG]
     simp [(nW b).2 hb]
   · have dm : (b == 10) = false := by simp [hb]
     have hn : (decide (b.toNat ≠ 10)) = true := by simp [nW, hb]
     rw [nG, hn]
     rcases ih with ⟨h1, h2⟩ | ⟨k, h1, h2, h3⟩
     · left; rw [h1, h2]; simp [dm]
     · right
       refine ⟨k + 1, ?_, by simp; omega, ?_⟩
       · rw [h1, dm]
         have : ((k : Int) == -1) = false := by simp
         simp [this]
       · simp only [if_true, List.take_succ_cons, h3]
theorem N4 (u : bh) (hu : u.length <= 100000) : ∃ y z, Pure K 148 [.str u, .str Al] (.aR [.str (u.takeWhile fun c => c.toNat ≠ 10), y, z]) := by
 have go : ∀ x y z, Pure K 212 [.str u, .str Al] (.aR [x, y, z]) -> Pure K 148 [.str u, .str Al] (.aR [x, y, z]) := fun x y z h U R hR => by
  refine LA ?_
  refine h.go ?_
  simp only [cz, List.drop, bM]
  exact ak.mk hR
 have hi := tq u 10
 rcases Af u with ⟨h1, h2⟩ | ⟨k, h1, h2, h3⟩
 · refine ⟨_, _, go _ (.str w_) (.bool false) fun U R hR => ?_⟩
   refine Ce ?_
   refine hi.go ?_
   rw [h1]
   simp only [dT, ah, show decide ((0 : Int) <= -1) = false from rfl, aW]
   rw [h2] at hR
   exact ak.mk hR
 · refine ⟨_, _, go _ (.str (u.drop (k + 1))) (.bool true) fun U R hR => ?_⟩
   refine Ce ?_
   refine hi.go ?_
   rw [h1]
   have h0 : decide ((0 : Int) <= (k : Nat)) = true := by simp
   simp only [dT, ah, h0, bf, l8, eV, fD, fN, av, ia, sa, show (Al : List UInt8).length = 1 from rfl, dR]
   refine ⟨⟨by omega, by omega, by omega⟩, aS (by omega) (by omega), ⟨by omega, by omega, by omega⟩, ?_⟩
   rw [h3] at hR
   refine ak.eq hR ?_
   have e1 : ((k : Int) + ((1 : Nat) : Int)).toNat = k + 1 := by omega
   simp [e1]
theorem RU {U : St} {R : cD -> St -> Prop} {b n : Nat} {c : iQ} {l : List Tk} {t : Tk} {a : AV} (hb : U.box b = some [.vec n c (gL (l ++ [t]))]) (hn : n = l.length + 1) (hl : l.length <= 900) (h : R (.ret (.int .i64 t.s.length)) U) : af K 75 [a, .box b 0] U R := by
 refine Ps ?_
 subst hn
 unfold Ra
 simp only [fz hb, List.drop, bM, o3, ah, Iz]
 refine ⟨aS (by omega) (by omega), ?_⟩
 rw [wR]
 refine ⟨by omega, ?_⟩
 have e : (((l.length + 1 : Nat) : Int) - 1).toNat = l.length := by omega
 rw [e]
 obtain ⟨r, hr⟩ := Bc (L := l ++ [t]) (i := l.length) (t := t) (by simp)
 rw [hr]
 simp only [dA, ah, nh, kf, List.drop, mg, bM, ia]
 exact ak.mk h
def uW (l : List Tk) : AV := if l = [] then .al else .vec l.length .hX (gL l)
theorem yg (l l' : List Tk) : gL (l ++ l') = gL l ++ gL l' := by simp [gL]
structure TI (U : St) (b1 b2 b3 b4 b7 bs bd : Nat) (s : bh) (l : List Tk) : Prop where
 h1 : U.box b1 = some [.str s]
 h2 : ∃ x, U.box b2 = some [x]
 h3 : ∃ x, U.box b3 = some [x]
 h4 : ∃ x, U.box b4 = some [x]
 h7 : ∃ v, U.box b7 = some [v] /\ Grow U v 51 3 l.length (gL l) /\ (l = [] -> v = .al)
 hs : U.box bs = some [.str s]
 hd : U.box bd = some [.func (.func 75) [] [.box b7 0]]
theorem gr {U ae : St} {b : Nat} (h : ae.live b = U.live b) : ae.loop b = U.loop b := by simp [St.loop, h]
theorem gi {U : St} {b : Nat} {L : fw} : (U.set b (.loop L)).loop b = some L := by simp [St.loop, eS]
theorem x5 {U : St} {b : Nat} {L : fw} : (U.new b (.loop L)).loop b = some L := by simp [St.loop, nD]
theorem cT {U : St} {b b' : Nat} {l : List AV} {L : fw} (h : U.box b = some l) (k : U.loop b' = some L) : b ≠ b' := by
 rintro rfl
 unfold St.box at h; unfold St.loop at k
 split at k
 · rename_i e; simp [e] at h
 · cases k
theorem yh {U : St} {b b' : Nat} {l : Tok} {L : fw} (h : U.tok b = some l) (k : U.loop b' = some L) : b ≠ b' := by
 rintro rfl
 unfold St.tok at h; unfold St.loop at k
 split at k
 · rename_i e; simp [e] at h
 · cases k
theorem TI.pa {U : St} {b1 b2 b3 b4 b7 bs bd o : Nat} {s : bh} {l : List Tk} (T : TI U b1 b2 b3 b4 b7 bs bd s l) {L L' : fw} (hL : U.loop o = some L) : TI (U.set o (.loop L')) b1 b2 b3 b4 b7 bs bd s l := by
 have k : ∀ {b : Nat} {x : List AV}, U.box b = some x -> (U.set o (.loop L')).box b = some x := fun h => by rw [aP (cT h hL)]; exact h
 obtain ⟨v, g1, g2, g3⟩ := T.h7
 refine ⟨k T.h1, T.h2.imp fun _ h => k h, T.h3.imp fun _ h => k h, T.h4.imp fun _ h => k h, ⟨v, k g1, ?_, g3⟩, k T.hs, k T.hd⟩
 rcases g2 with g2 | ⟨τ, e, ht, hl⟩
 · exact .inl g2
 · exact .inr ⟨τ, e, by rw [gz (yh ht hL)]; exact ht, hl⟩
theorem TI.pD {U ae : St} {b1 b2 b3 b4 b7 bs bd : Nat} {s : bh} {l : List Tk} (T : TI U b1 b2 b3 b4 b7 bs bd s l) (e : cL U ae) : TI ae b1 b2 b3 b4 b7 bs bd s l := by
 obtain ⟨v, g1, g2, g3⟩ := T.h7
 refine ⟨e.bj T.h1, T.h2.imp fun _ h => e.bj h, T.h3.imp fun _ h => e.bj h, T.h4.imp fun _ h => e.bj h, ⟨v, e.bj g1, ?_, g3⟩, e.bj T.hs, e.bj T.hd⟩
 rcases g2 with g2 | ⟨τ, e1, ht, hl⟩
 · exact .inl g2
 · exact .inr ⟨τ, e1, e.tok ht, hl⟩
theorem Pure.QJ {f : Nat} {args : List AV} {x : AV} (hargs : bV args = true) (hx : closed x = true)
 (h : ∀ R : cD -> St -> Prop, (∀ v ae, resolve 5 ae v = x -> R (.ret v) ae) -> af K f args (bD ⟨.e, 0⟩) R) : Pure K f args x :=
 Pure.xh sx hargs hx 5 (h _ fun v ae e => ⟨v, rfl, e⟩)
theorem FO (n : Nat) (U : St) (l : List Tk) : (gL l).map (resolve (n + 1) U) = gL l := by
 induction l with
 | nil => rfl
 | cons t l ih =>
   show ((nh t ++ gL l).map (resolve (n + 1) U)) = nh t ++ gL l
   rw [List.map_append, ih]; rfl
theorem Hb (l : List Tk) : bV (gL l) = true := by
 induction l with
 | nil => rfl
 | cons t l ih => show bV (nh t ++ gL l) = true; simp [nh, bV, closed, ih]
theorem Fi (l : List Tk) : closed (uW l) = true := by
 unfold uW; split
 · rfl
 · exact Hb l
theorem Et {U ae : St} {v : AV} {l : List Tk} (n : Nat) (h : Grow U v 51 3 l.length (gL l)) (h0 : l = [] -> v = .al) : resolve (n + 2) ae v = uW l := by
 unfold uW
 split
 · rename_i e; rw [h0 e]; rfl
 · rename_i e
   rcases h with ⟨h1, _, _⟩ | ⟨τ, rfl, _, _⟩
   · exact absurd (oH.1 h1) e
   · show AV.vec l.length .hX ((gL l).map (resolve (n + 1) ae)) = _
     rw [FO]
def wN : CM -> AV
 | .ok l => .aR [uW l, .int .i64 0, .int .i64 0]
 | .bad p e => .aR [.al, .int .i64 p, .int .i64 e]
theorem cL.loop {U ae : St} {b : Nat} {L : fw} (h : cL U ae) (k : U.loop b = some L) : ae.loop b = some L := by
 cases e : U.live b with
 | none => simp [St.loop, e] at k
 | some x => rw [gr ((h b x e).trans e.symm)]; exact k
theorem vU {U ae : St} {v : AV} {e sz n : Nat} {l : List AV} (g : Grow U v e sz n l) (e1 : ∀ b x, (∀ n l, v ≠ .vec n (.own b) l) -> U.live b = some x -> ae.live b = some x) :
 (∀ {b : Nat} {x : List AV}, U.box b = some x -> ae.box b = some x) /\ (∀ {b : Nat} {L : fw}, U.loop b = some L -> ae.loop b = some L) := by
 refine ⟨fun {b x} h => ?_, fun {b L} h => ?_⟩
 · cases e : U.live b with
   | none => exact absurd e (de h)
   | some y =>
     have := e1 b y (fun n' l' hv => by
      rcases g with ⟨_, _, g⟩ | ⟨τ, g, ht, _⟩
      · rw [g] at hv; cases hv
      · rw [g] at hv; cases hv; exact ej h ht rfl) e
     rw [gR (this.trans e.symm)]; exact h
 · cases e : U.live b with
   | none => simp [St.loop, e] at h
   | some y =>
     have := e1 b y (fun n' l' hv => by
      rcases g with ⟨_, _, g⟩ | ⟨τ, g, ht, _⟩
      · rw [g] at hv; cases hv
      · rw [g] at hv; cases hv; exact yh ht h rfl) e
     rw [gr (this.trans e.symm)]; exact h
theorem WI {U : St} {b2 b3 b4 : Nat} {lv : AV} {p e : Int} {K' : AV -> St -> Prop} {Kp : AV -> St -> Prop} (h2 : ∃ x, U.box b2 = some [x]) (h3 : ∃ x, U.box b3 = some [x]) (h4 : ∃ x, U.box b4 = some [x]) (Gy : b2 ≠ b3) (Gz : b2 ≠ b4) (Ea : b3 ≠ b4) (hl : lv.cQ = true /\ ay lv = [lv])
 (h : ∀ jl, jl.box b2 = some [lv] -> jl.box b3 = some [.int .i64 p] -> jl.box b4 = some [.int .i64 e] -> (∀ b, b ≠ b2 -> b ≠ b3 -> b ≠ b4 -> jl.live b = U.live b) -> K' (.aR []) jl) :
 (aL (some (false, 1)) (.box b2 0) lv U).wp K U (fun _ U => (aL (some (false, 1)) (.box b3 0) (.int .i64 p) U).wp K U (fun _ U => (aL (some (false, 1)) (.box b4 0) (.int .i64 e) U).wp K U K' Kp) Kp) Kp := by
 obtain ⟨x2, h2⟩ := h2
 obtain ⟨x3, h3⟩ := h3
 obtain ⟨x4, h4⟩ := h4
 rw [cI h2]
 refine ⟨⟨hl.1, by rw [hl.2]; rfl, by simp⟩, ?_⟩
 rw [cI (show (U.set b2 _).box b3 = some [x3] by rw [aP Gy.symm]; exact h3)]
 refine ⟨⟨rfl, rfl, by simp⟩, ?_⟩
 rw [cI (show ((U.set b2 _).set b3 _).box b4 = some [x4] by rw [aP Ea.symm, aP Gz.symm]; exact h4)]
 refine ⟨⟨rfl, rfl, by simp⟩, h _ ?_ ?_ ?_ fun b m2 m3 m4 => ?_⟩
 · rw [aP Gz, aP Gy, aT, hl.2]; rfl
 · rw [aP Ea, aT]; rfl
 · rw [aT]; rfl
 · rw [eS, if_neg m4, eS, if_neg m3, eS, if_neg m2]
theorem FU (s : bh) (hs : s.length <= 3000) : Pure K 33 [.str s] (wN (oz s)) := by
 refine Pure.QJ rfl (by cases oz s with | ok l => simp [wN, closed, bV, Fi] | bad p e => rfl) fun R hR => ?_
 refine Pb ?_
 unfold QV
 rw [ff rfl]
 intro b1 eH
 rw [cN]
 intro b2 lQ
 rw [cN]
 intro b3 iD
 rw [cN]
 intro b4 lR
 have n12 : b1 ≠ b2 := lQ.cx aN
 have g1 := aN (U := bD ⟨.e, 0⟩) (b := b1) (l := ay (.str s))
 generalize OE : (bD _).new b1 _ = bJ at *
 have Y2 := (bE lQ (x := .box [.al])).bj g1
 have g2 := aN (U := bJ) (b := b2) (l := [.al])
 generalize OF : bJ.new b2 _ = bP at *
 have UI := (bE iD (x := .box [.int .i64 0])).bj Y2
 have UJ := (bE iD (x := .box [.int .i64 0])).bj g2
 have g3 := aN (U := bP) (b := b3) (l := [.int .i64 0])
 have Gy : b2 ≠ b3 := iD.cx g2
 generalize aaP : bP.new b3 _ = cJ at *
 have k1 := (bE lR (x := .box [.int .i64 0])).bj UI
 have k2 := (bE lR (x := .box [.int .i64 0])).bj UJ
 have k3 := (bE lR (x := .box [.int .i64 0])).bj g3
 have k4 := aN (U := cJ) (b := b4) (l := [.int .i64 0])
 have Gz : b2 ≠ b4 := lR.cx UJ
 have Ea : b3 ≠ b4 := lR.cx g3
 generalize DP : cJ.new b4 _ = cu at *
 clear OE OF aaP DP g1 Y2 UI g2 UJ g3 eH lQ iD lR
 replace k1 : cu.box b1 = some [.str s] := k1
 have fin : ∀ (ae : St) (lv : AV) (p e : Int), ae.box b2 = some [lv] -> ae.box b3 = some [.int .i64 p] -> ae.box b4 = some [.int .i64 e] -> (∀ jl, resolve 5 jl (.aR [lv, .int .i64 p, .int .i64 e]) = wN (oz s)) ->
  br (some (false, 1)) (.box b2 0) ae fun r0 => br (some (false, 1)) (.box b3 0) ae fun r1 => br (some (false, 1)) (.box b4 0) ae fun r2 => ak R (.aR [r0, r1, r2]) ae := by
  intro ae lv p e m2 m3 m4 hres
  rw [Ep m2 (ez), Ep m3 (ez), Ep m4 (ez)]
  exact ak.mk (hR _ _ (hres _))
 simp only [fz k1, Br, List.drop, bM]
 refine (N3 s).go ?_
 simp only [cz, List.drop, bM, cM, ah]
 have ig : oz s = if (sr s).2 ≠ 0 then .bad (sr s).1 (sr s).2 else lz s.length s 0 [] := rfl
 by_cases he : (sr s).2 = 0
 · simp only [he, bT, ca, aW]
   rw [if_neg (by simp [he])] at ig
   rw [cN]
   intro b7 pG
   have n71 := (pG.cx k1).symm
   have n72 := (pG.cx k2).symm
   have n73 := (pG.cx k3).symm
   have n74 := (pG.cx k4).symm
   have e5 := bE pG (x := .box [.al])
   have m7 := aN (U := cu) (b := b7) (l := [.al])
   generalize aaQ : cu.new b7 _ = dI at *
   rw [fz (e5.bj k1), ez, bM]
   refine Pt ?_
   unfold Rb
   rw [ff rfl]
   intro bs Jl
   have n7s := Jl.cx m7
   have e6 := bE Jl (x := .box (ay (.str s)))
   have ms := aN (U := dI) (b := bs) (l := ay (.str s))
   generalize aaR : dI.new bs _ = oP at *
   rw [ff rfl]
   intro bd US
   have n7d := US.cx (e6.bj m7)
   have e7 := bE US (x := .box (ay (.func (.func 75) [] [.box b7 0])))
   have md := aN (U := oP) (b := bd) (l := ay (.func (.func 75) [] [.box b7 0]))
   generalize aaS : oP.new bd _ = nq at *
   refine ak.mk ?_
   refine ⟨by kernel_rfl, fun o L ho Jh UP Y => ?_⟩
   have IY := e5.trans (e6.trans e7)
   have T7 : TI nq b1 b2 b3 b4 b7 bs bd s [] := ⟨IY.bj k1, ⟨_, IY.bj k2⟩, ⟨_, IY.bj k3⟩, ⟨_, IY.bj k4⟩, ⟨_, (e6.trans e7).bj m7, .inl ⟨rfl, rfl, rfl⟩, fun _ => rfl⟩, e7.bj ms, md⟩
   have T8 := T7.pD (bE ho (x := .loop L))
   have L8 := x5 (U := nq) (b := o) (L := L)
   generalize aaT : nq.new o _ = Cg at *
   clear aaQ aaR aaS aaT T7 IY e5 e6 e7 m7 ms md ho US Jl pG k1 k2 k3 k4
   refine Lz ?_
   unfold Ly
   refine ⟨fun m v0 v1 v2 v4 ae => ∃ f p l, m = s.length - p /\ v0 = .pN o /\ v1 = .box bs 0 /\ v2 = .box bd 0 /\ v4 = .int .i64 (p : Nat) /\ p <= s.length /\ s.length - p <= f /\ l.length <= 900 /\ lz f s p l = oz s /\ TI ae b1 b2 b3 b4 b7 bs bd s l /\ ∃ L1, ae.loop o = some L1 /\ L1.st .ready none = L /\ L1.state = .ready /\ L1.eT = none,
    ⟨_, s.length, 0, [], rfl, rfl, rfl, rfl, rfl, by omega, by omega, by simp, ig.symm, T8, L, L8, by cases L; simp_all [fw.st], Jh, UP⟩, ?_⟩
   clear T8 L8 ig he
   rintro m v0 v1 v2 v4 pP ⟨f, p, l, rfl, rfl, rfl, rfl, rfl, hp, hf, Vg, ig, T, L1, pF, fp, DF, BF⟩
   rw [fz T.hs, ez, bM]
   simp only [ia, ah, bg, aY]
   refine ⟨fun aJ => ?_, fun fJ => ?_⟩
   · have aJ : p < s.length := by omega
     have vY : s.drop p = s[p] :: s.drop (p + 1) := gy aJ
     cases f with
     | zero => omega
     | succ f =>
     simp only [lz] at ig
     rw [vY] at ig
     simp only at ig
     rw [fz T.hs, ez, bM, u4]
     refine ⟨by omega, ?_⟩
     rw [dR, getD_at aJ]
     intro jj xP
     have c32 : ((s[p].toNat : Int) = 32) = (s[p].toNat = 32) := by simp; omega
     have c10 : ((s[p].toNat : Int) = 10) = (s[p].toNat = 10) := by simp; omega
     have aae : ((s[p].toNat : Int) = 126) = (s[p].toNat = 126) := by simp; omega
     have blank : s[p].toNat = 32 \/ s[p].toNat = 10 -> jj (.pN o) (.box bs 0) (.box bd 0) (.int .i64 (p : Nat)) (.int .u8 s[p].toNat) (.bool true) pP := fun h => by
      refine xP _ _ _ _ _ _ _ ?_
      rw [if_pos h] at ig
      simp only [bf, cg]
      exact ⟨aS (by omega) (by omega), _, by omega, f, p + 1, l, rfl, rfl, rfl, rfl, by simp, by omega, by omega, Vg, ig, T, L1, pF, fp, DF, BF⟩
     have other : ¬ (s[p].toNat = 32 \/ s[p].toNat = 10) -> jj (.pN o) (.box bs 0) (.box bd 0) (.int .i64 (p : Nat)) (.int .u8 s[p].toNat) (.bool false) pP := fun h => by
      refine xP _ _ _ _ _ _ _ ?_
      rw [if_neg h] at ig
      simp only [aW, aX, ah, aY, aae]
      have after : ∀ {jl : St} {L2 : fw}, L2 = { L1 with state := .ready, eT := none } -> L2.st .ready none = L /\ L2.state = .ready /\ L2.eT = none := fun h => by
       subst h; exact ⟨by rw [<- fp]; rfl, rfl, rfl⟩
      refine ⟨fun Hs => ?_, fun Hs => ?_⟩
      · rw [if_pos Hs] at ig
        rw [fz T.hs, ez, bM]
        have hdn : ((s.take s.length).drop p) = s[p] :: s.drop (p + 1) := by rw [oI, vY]
        simp only [l8, eV, fD, wp_cond, ah, dR, hdn]
        refine ⟨⟨by omega, by omega, by omega⟩, ?_⟩
        obtain ⟨y, z, aat⟩ := N4 (s[p] :: s.drop (p + 1)) (by rw [<- vY]; simp; omega)
        refine aat.go ?_
        have hlen : ((s[p] :: s.drop (p + 1)).takeWhile fun c => c.toNat ≠ 10).length <= s.length - p := by
         rw [<- vY]; exact Nat.le_trans (ri _).length_le (by simp)
        have bW : 1 <= ((s[p] :: s.drop (p + 1)).takeWhile fun c => c.toNat ≠ 10).length /\ ((s[p] :: s.drop (p + 1)).takeWhile fun c => c.toNat ≠ 10) ≠ [] := by
         rw [nG]; simp [Hs]
        generalize ((s[p] :: s.drop (p + 1)).takeWhile fun c => c.toNat ≠ 10) = nt at *
        simp only [cz, List.drop, bM]
        simp only [gp, yW]
        refine Y _ _ _ L1 rfl pF fp ?_
        refine ⟨L1, pF, DF, ?_⟩
        have hnn : ¬ nt = w_ := bW.2
        simp only [jI, ah, hnn, ct, dt, bf]
        refine ⟨_, gi, ?_⟩
        simp only [bA, c8, ah, ca, aW, ia, cg]
        refine ⟨aS (by omega) (by omega), _, ?_, f, p + nt.length, l, rfl, rfl, rfl, rfl, by simp, by omega, by omega, Vg, ig, (T.pa pF).pa gi, _, gi, ?_⟩
        · omega
        · exact ⟨by rw [<- fp]; rfl, rfl, rfl⟩
      · rw [if_neg Hs] at ig
        simp only [gp, yW]
        refine Y _ _ _ L1 rfl pF fp ?_
        refine ⟨L1, pF, DF, ?_⟩
        have T2 := T.pa (L' := { L1 with state := .busy }) pF
        have L2 : (pP.set o (.loop { L1 with state := .busy })).loop o = some { L1 with state := .busy } := gi
        generalize Yw : pP.set o (.loop { L1 with state := .busy }) = u6 at *
        simp only [jI, ah, bT, ca, aW]
        rw [fz T2.h1, ez, bM]
        have hdn : ((s.take s.length).drop p) = s[p] :: s.drop (p + 1) := by rw [oI, vY]
        simp only [l8, eV, fD, wp_cond, ah, dR, hdn]
        refine ⟨⟨by omega, by omega, by omega⟩, ?_⟩
        refine (Hi (s[p] :: s.drop (p + 1)) (by rw [<- vY]; simp; omega)).go ?_
        cases oT : fQ (s[p] :: s.drop (p + 1)) with
        | mk e kt =>
        obtain ⟨k, tx⟩ := kt
        rw [oT] at ig
        simp only at ig
        simp only [Iu, cz, List.drop, bM]
        rw [cN]
        intro hY sA
        have g11 : (u6.new hY (.box [AV.int .u8 0, AV.str [], AV.int .i64 0])).box hY = some [AV.int .u8 0, AV.str [], AV.int .i64 0] := aN
        rw [cI g11]
        refine ⟨⟨rfl, rfl, by simp⟩, ?_⟩
        have SS := ((cL.refl u6).new sA (x := .box [AV.int .u8 0, AV.str [], AV.int .i64 0])).set (x := .box (aB [AV.int .u8 0, AV.str [], AV.int .i64 0] 0 (ay (.agg [.int .u8 (k : Nat), .str tx, .int .i64 0])))) sA.1
        have m11 : ((u6.new hY (.box [AV.int .u8 0, AV.str [], AV.int .i64 0])).set hY (.box (aB [AV.int .u8 0, AV.str [], AV.int .i64 0] 0 (ay (.agg [.int .u8 (k : Nat), .str tx, .int .i64 0]))))).box hY = some [.int .u8 (k : Nat), .str tx, .int .i64 0] := by rw [aT]; rfl
        have n117 : b7 ≠ hY := sA.cx (T2.h7.choose_spec.1)
        generalize (u6.new hY (.box [AV.int .u8 0, AV.str [], AV.int .i64 0])).set hY (.box (aB [AV.int .u8 0, AV.str [], AV.int .i64 0] 0 (ay (.agg [.int .u8 (k : Nat), .str tx, .int .i64 0])))) = u7 at *
        have T3 := T2.pD SS
        have L3 := SS.loop L2
        have Ya : ∀ (b : Nat) (x : List AV), u6.box b = some x -> b ≠ hY := fun b x h => sA.cx h
        clear SS g11 sA Yw
        intro j hj
        obtain ⟨v, q1, q2, q3⟩ := T3.h7
        have cont : ∀ e' : Int, (e' ≠ 0 -> oz s = .bad p e') -> (e' = 0 -> l.length < 900 /\ 0 < tx.length /\ lz f s (p + tx.length) (l ++ [⟨k, tx, p⟩]) = oz s) -> (e' = 0 -> e = 0) -> j (.box b2 0) (.box b3 0) (.box b4 0) (.box b7 0) (.int .i64 (p : Nat)) (.box hY 0) (.int .i64 e') u7 := by
         intro e' aao Yh U5
         refine hj _ _ _ _ _ _ _ _ ?_
         by_cases jP : e' = 0
         · obtain ⟨abP, iW, Vk⟩ := Yh jP
           simp only [jP, cM, ah, bT, ca, aW, aV, cr]
           rw [cI m11]
           refine ⟨⟨rfl, rfl, by simp⟩, ?_⟩
           have kp : ∀ {b : Nat} {x : List AV}, b ≠ hY -> u7.box b = some x -> (u7.set hY (.box (aB [.int .u8 (k : Nat), .str tx, .int .i64 0] 2 (ay (.int .i64 (p : Nat)))))).box b = some x := fun h1 h2 => by rw [aP h1]; exact h2
           rw [fz (kp n117 q1), ez, bM]
           rw [qq aT]
           refine ⟨by simp [aB], ?_⟩
           have Wd : Grow (u7.set hY (.box (aB [.int .u8 (k : Nat), .str tx, .int .i64 0] 2 (ay (.int .i64 (p : Nat)))))) v 51 3 l.length (gL l) := by
            rcases q2 with q2 | ⟨τ, r1, r2, r3⟩
            · exact .inl q2
            · exact .inr ⟨τ, r1, by rw [gz (ej m11 r2).symm]; exact r2, r3⟩
           have vO : ∀ {b : Nat} {x : List AV}, u7.box b = some x -> b ≠ hY -> (u7.set hY (.box (aB [.int .u8 (k : Nat), .str tx, .int .i64 0] 2 (ay (.int .i64 (p : Nat)))))).box b = some x := fun h1 h2 => kp h2 h1
           have ZY : (u7.set hY (.box (aB [.int .u8 (k : Nat), .str tx, .int .i64 0] 2 (ay (.int .i64 (p : Nat)))))).loop o = some { L1 with state := .busy } := by
            rw [gr]; exact L3
            rw [eS, if_neg (cT m11 L3).symm]
           have Dj : (List.take 3 (List.drop 0 (aB [.int .u8 (k : Nat), .str tx, .int .i64 0] 2 (ay (.int .i64 (p : Nat)))))) = nh ⟨k, tx, p⟩ := by simp [aB, nh]
           rw [Dj]
           generalize u7.set hY (.box (aB [.int .u8 (k : Nat), .str tx, .int .i64 0] 2 (ay (.int .i64 (p : Nat))))) = abS at *
           rw [fC]
           refine ⟨by omega, ?_⟩
           rw [eO (o := 0) (s := 3) rfl]
           refine ⟨⟨rfl, rfl, by simp [bK]⟩, ?_⟩
           rw [gM]
           refine ⟨rfl, ?_⟩
           have QM := vO q1 n117
           refine Iy (m := 1) (l2 := nh ⟨k, tx, p⟩) Wd rfl rfl (by omega) (by omega) (fun h => q3 (oH.1 h)) fun Bj v' g1 g2 g3 => ?_
           obtain ⟨kb, kl⟩ := vU Wd g2
           have lS : v'.cQ = true /\ ay v' = [v'] := by
            rcases g1 with ⟨_, _, rfl⟩ | ⟨τ, rfl, _, _⟩ <;> exact ⟨rfl, rfl⟩
           rw [cI (kb QM)]
           refine ⟨⟨lS.1, by rw [lS.2]; rfl, by simp⟩, ?_⟩
           have kk : ∀ {b : Nat} {x : List AV}, b7 ≠ b -> Bj.box b = some x -> (Bj.set b7 (.box (aB [v] 0 (ay v')))).box b = some x := fun h1 h2 => by rw [aP h1.symm]; exact h2
           have lo : (Bj.set b7 (.box (aB [v] 0 (ay v')))).loop o = some { L1 with state := .busy } := by
            rw [gr]; exact kl ZY
            rw [eS, if_neg (cT (kb QM) (kl ZY)).symm]
           have Ay : ∀ {b : Nat} {x : List AV}, u6.box b = some x -> b ≠ hY := fun h => Ya _ _ h
           have T5 : TI (Bj.set b7 (.box (aB [v] 0 (ay v')))) b1 b2 b3 b4 b7 bs bd s (l ++ [⟨k, tx, p⟩]) := by
            refine ⟨kk n71 (kb (vO T3.h1 (Ay T2.h1))), ?_, ?_, ?_, ⟨v', by rw [aT, lS.2]; rfl, ?_, fun h => by simp at h⟩, kk n7s (kb (vO T3.hs (Ay T2.hs))), kk n7d (kb (vO T3.hd (Ay T2.hd)))⟩
            · obtain ⟨x, hx⟩ := T2.h2; obtain ⟨y, hy⟩ := T3.h2; exact ⟨y, kk n72 (kb (vO hy (Ay hx)))⟩
            · obtain ⟨x, hx⟩ := T2.h3; obtain ⟨y, hy⟩ := T3.h3; exact ⟨y, kk n73 (kb (vO hy (Ay hx)))⟩
            · obtain ⟨x, hx⟩ := T2.h4; obtain ⟨y, hy⟩ := T3.h4; exact ⟨y, kk n74 (kb (vO hy (Ay hx)))⟩
            · have el : (l ++ [(⟨k, tx, p⟩ : Tk)]).length = l.length + 1 := by simp
              rw [el, yg]
              rcases g1 with ⟨h0, _⟩ | ⟨τ, r1, r2, r3⟩
              · omega
              · exact .inr ⟨τ, r1, by rw [gz (ej (kb QM) r2).symm]; exact r2, r3⟩
           have Yj : ∃ c, v' = .vec (l.length + 1) c (gL (l ++ [⟨k, tx, p⟩])) := by
            rw [yg]
            rcases g1 with ⟨h0, _⟩ | ⟨τ, r1, _, _⟩
            · omega
            · exact ⟨_, r1⟩
           have Y9 : (Bj.set b7 (.box (aB [v] 0 (ay v')))).box b7 = some [v'] := by rw [aT, lS.2]; rfl
           generalize Bj.set b7 (.box (aB [v] 0 (ay v'))) = abA at *
           refine ⟨_, lo, ?_⟩
           have T6 := T5.pa (L' := { L1 with state := .ready, eT := none }) lo
           obtain ⟨c, hc⟩ := Yj
           subst hc
           have aam : (abA.set o (.loop { L1 with state := .ready, eT := none })).box b7 = some [.vec (l.length + 1) c (gL (l ++ [⟨k, tx, p⟩]))] := by rw [aP (cT Y9 lo)]; exact Y9
           simp only [bA, c8, ah, ca, aW]
           rw [fz T6.hd, ez, bM]
           simp only [show eg K.P 75 = true by kernel_rfl, if_true, jk, ik, kf]
           refine RU aam rfl Vg ?_
           simp only [bA, cg]
           have oS : p + tx.length <= s.length := by
            have := (Bd (s := s[p] :: s.drop (p + 1)) (k := k) (t := tx) (by rw [oT, U5 jP])).2.length_le
            rw [<- vY] at this
            simp at this
            omega
           refine ⟨aS (by omega) (by omega), _, ?_, f, p + tx.length, l ++ [⟨k, tx, p⟩], rfl, rfl, rfl, rfl, by simp, oS, by omega, by simp; omega, Vk, T6, _, gi, by rw [<- fp]; rfl, rfl, rfl⟩
           omega
         · simp only [jP, cM, ah, ct, dt, bf]
           refine WI T3.h2 T3.h3 T3.h4 Gy Gz Ea ⟨rfl, rfl⟩ fun jl m2 m3 m4 mo => ?_
           have ob : ∀ {b : Nat}, (∃ x, u7.box b = some [x]) -> o ≠ b := fun ⟨x, h⟩ => (cT h L3).symm
           have L4 : jl.loop o = some { L1 with state := .busy } := by rw [gr (mo o (ob T3.h2) (ob T3.h3) (ob T3.h4))]; exact L3
           refine ⟨_, L4, ?_⟩
           simp only [bA, c8, ah, dt, bf]
           refine ak.mk ⟨_, gi, by simp, ?_⟩
           have kp : ∀ {b : Nat} {x : List AV}, o ≠ b -> jl.box b = some x -> ((jl.set o (.loop { L1 with state := .done, eT := some .ret })).del o).box b = some x := fun h1 h2 => by rw [jA h1.symm, aP h1.symm]; exact h2
           refine fin _ _ _ _ (kp (ob T3.h2) m2) (kp (ob T3.h3) m3) (kp (ob T3.h4) m4) fun cJ => ?_
           rw [aao jP]; rfl
        have hlen : bz (some false) v = .val (.int .i64 l.length) := by
         rcases q2 with ⟨h0, _, rfl⟩ | ⟨τ, rfl, _, _⟩
         · rw [h0]; rfl
         · rfl
        simp only [aX, ah, aI, aC]
        by_cases Bz : e = 0
        · subst Bz
          simp only [bT, dG, bl, lX q1, ez, fM, ga, hlen, av, aX, aA, if_true, ah, aY]
          rw [if_neg (by simp)] at ig
          refine ⟨fun aan => ?_, fun aan => ?_⟩
          · rw [if_pos (by omega)] at ig
            exact cont 5 (fun _ => ig.symm) (fun h => by omega) (fun h => by omega)
          · rw [if_neg (by omega)] at ig
            have iW := (Bd oT).1.1
            exact cont 0 (fun h => absurd rfl h) (fun _ => ⟨by omega, List.length_pos_iff.2 iW, ig⟩) (fun _ => rfl)
        · simp only [Bz, ct, show (false == true) = false from rfl, a7, aA, bo, if_false, ah, aW]
          rw [if_pos Bz] at ig
          exact cont e (fun _ => ig.symm) (fun h => absurd h Bz) (fun h => h)
     simp only [aX, ah, aY, c32, c10]
     refine ⟨fun h => ?_, fun h => ?_⟩
     · simp only [h, bT]; rw [h] at blank; exact blank (.inl rfl)
     · by_cases nW : s[p].toNat = 10
       · simp only [nW, bT]; rw [nW] at blank; exact blank (.inr rfl)
       · simp only [nW, ct]; exact other (fun h1 => h1.elim h nW)
   · have hd0 : s.drop p = [] := List.drop_eq_nil_of_le (by omega)
     have Vk : oz s = .ok l := by
      rw [<- ig]
      cases f with
      | zero => rfl
      | succ f => simp only [lz]; rw [hd0]
     refine ak.mk ⟨L1, pF, by rw [DF]; simp, ?_⟩
     rw [BF]
     obtain ⟨v, g1, g2, g3⟩ := T.h7
     have dl : ∀ {b : Nat} {x : List AV}, pP.box b = some x -> (pP.del o).box b = some x := fun h => by rw [jA (cT h pF)]; exact h
     have hv : v.cQ = true /\ ay v = [v] := by
      rcases g2 with ⟨_, _, rfl⟩ | ⟨τ, rfl, _, _⟩ <;> exact ⟨rfl, rfl⟩
     show (ao (some (false, 1)) (.box b7 0) (pP.del o)).wp K (pP.del o) _ _
     rw [fz (dl g1), ez, bM]
     refine WI (T.h2.imp fun _ h => dl h) (T.h3.imp fun _ h => dl h) (T.h4.imp fun _ h => dl h) Gy Gz Ea hv fun jl m2 m3 m4 _ => ?_
     refine fin jl _ _ _ m2 m3 m4 fun cJ => ?_
     rw [Vk]
     show AV.aR [resolve 4 cJ v, .int .i64 0, .int .i64 0] = _
     rw [Et 2 g2 g3]
     rfl
 · simp only [he, ct, dt, bf]
   rw [if_pos he] at ig
   refine WI ⟨_, k2⟩ ⟨_, k3⟩ ⟨_, k4⟩ Gy Gz Ea ⟨rfl, rfl⟩ fun dI m2 m3 m4 _ => ?_
   exact fin dI _ _ _ m2 m3 m4 fun jl => by rw [ig]; rfl
end Go.Rip
